/-
  Lemmas of this claim, text behind text: Runs, WordProg, WordLook, WordRef, LendV, KeptV, SpoilV, Mem, Num, WordGot, BitProg2, VecEnc, VecEnc2, VarRef, Make, BitRef. Each states its own conditions.
-/
import Derived.Carry
import Derived.Maps.Own
import Derived.Maps.OwnOps
import Derived.WalkKit
import Derived.WalkSpells
import Derived.WalkLawsBesides
import Derived.Below
import Derived.OwnWalk
import Derived.Laws.OwnMore
import Derived.StillTailTactics
import Derived.Test.YtgmemdedpklnhaaGreatPart01
import Derived.Test.YtgmemdedpklnhaaGreatPart03
import Derived.Test.YtgmemdedpklnhaaGreatPart05

/-
  THE WALKS of package runs and of the document's own Cut and Join.
-/

namespace Go.Proofs.YtgmemdedpklnhaaGreat.Runs
open Go.RowKit ValMath Vals

def counts (acc : List (Nat × Val)) : List Int := acc.map fun p => (p.1 : Int)
def vals (acc : List (Nat × Val)) : List Val := acc.map (·.2)

theorem counts_append (a b : List (Nat × Val)) : counts (a ++ b) = counts a ++ counts b := by simp [counts]
theorem vals_append (a b : List (Nat × Val)) : vals (a ++ b) = vals a ++ vals b := by simp [vals]
theorem counts_length (a : List (Nat × Val)) : (counts a).length = a.length := by simp [counts]
theorem vals_length (a : List (Nat × Val)) : (vals a).length = a.length := by simp [vals]

theorem rel_inc {W : World} {B g1 g2 c1 c2 j m : Nat} {acc : List (Nat × Val)} {x : Val} (hj : acc.length = j)
    (hI : OwnI W B (.slice (some ⟨g1, 0, none⟩) (j + 1) c1) (counts (acc ++ [(m, x)]))) (hV : OwnV W B (.slice (some ⟨g2, 0, none⟩) (j + 1) c2) (vals (acc ++ [(m, x)]))) :
    OwnI (W.setCell ⟨g1, j, none⟩ (.int .i64 ((m : Int) + 1))) B (.slice (some ⟨g1, 0, none⟩) (j + 1) c1) (counts (acc ++ [(m + 1, x)])) ∧
    OwnV (W.setCell ⟨g1, j, none⟩ (.int .i64 ((m : Int) + 1))) B (.slice (some ⟨g2, 0, none⟩) (j + 1) c2) (vals (acc ++ [(m + 1, x)])) := by
  have hne := own_ne hV hI (by decide)
  constructor
  · unfold OwnI at hI ⊢
    have hl1 : (counts (acc ++ [(m, x)])).length = j + 1 := by rw [counts_length]; simp [hj]
    have hl2 : (counts (acc ++ [(m + 1, x)])).length = j + 1 := by rw [counts_length]; simp [hj]
    rw [hl1] at hI
    rw [hl2]
    have h := World.ownsRow.stored hI j (.int .i64 ((m : Int) + 1))
    have e : (icells (counts (acc ++ [(m, x)]))).set j (.int .i64 ((m : Int) + 1)) = icells (counts (acc ++ [(m + 1, x)])) := by
      rw [counts_append, counts_append, icells_append, icells_append, List.set_append_right _ _ (by rw [icells_length, counts_length]; omega), icells_length, counts_length, hj]
      simp [counts, icells]
    rw [← e]; exact h.1
  · have e : vals (acc ++ [(m + 1, x)]) = vals (acc ++ [(m, x)]) := by rw [vals_append, vals_append]; rfl
    rw [e]
    refine own_set hV ?_ _
    rcases hne with h | h
    · rw [h]; simp
    · exact h

set_option maxRecDepth 20000 in
set_option maxHeartbeats 1000000 in
theorem cut_any (A : Option Addr) (n c : Nat) (vs : List Val) (w : World) (hv : VSl w A n vs) (hn : n * 40 ≤ 140737488355280) :
    Calls Tryz.prog 111 #[.slice A n c] w fun e w' => ∃ u1 u2, e = .returned (.tuple #[u1, u2]) ∧ OwnI w' w.heap.size u1 (counts (cut vs)) ∧ OwnV w' w.heap.size u2 (vals (cut vs)) ∧ Below w.heap.size w w' := by
  obtain ⟨i3, hi3, hz3, hs3, hb3⟩ := info_parts info_int
  obtain ⟨i52, hi52, hz52, hs52, hb52⟩ := info_parts info_val
  go_enter Tryz.func111, Tryz.ntmps111
  go_wp2
  go_loopw [4, 5, 11] (fun v4 v5 i wr => ∃ k : Nat, k ≤ n ∧ i = .int .i64 k ∧ OwnI wr w.heap.size v4 (counts (cut (vs.take k))) ∧ OwnV wr w.heap.size v5 (vals (cut (vs.take k))) ∧ Below w.heap.size w wr)
    (fun _ _ i _ => n - (intOf i).toNat)
  case atStart => exact ⟨0, Nat.zero_le _, rfl, OwnI.nil _ _, OwnV.nil _ _, Below.refl _ _⟩
  case round =>
    obtain ⟨k, hk, rfl, hI, hV, hb⟩ := hrel
    by_cases hlt : k < n
    · have hvr := hv.below hb
      obtain ⟨b1, o1, v, hv1, rfl, hb1, c0, c1, c2, c3⟩ := hvr.at_ hlt
      have hts := take_more hv1
      have hcs : cut (vs.take (k + 1)) = push (cut (vs.take k)) v := by rw [hts, cut_snoc]
      have hlen := cut_length (vs.take k)
      have hlk : (vs.take k).length ≤ k := List.length_take_le _ _
      generalize hacc : cut (vs.take k) = acc at hI hV hcs hlen
      have HCS := Lib.hid hcs; clear hcs
      have hp := plain_any v
      have hcv : (clean v).k = (clean v).k := rfl
      generalize hu : clean v = u at hp
      obtain ⟨kv, iv, bv, sv⟩ := v
      obtain ⟨ku, iu, bu, su⟩ := u
      simp only [] at c0 c1 c2 c3 hp
      have HP := Lib.hid hp; clear hp
      have HU := Lib.hid hu; clear hu hcv
      have HAcc := Lib.hid hacc; clear hacc
      have HV1 := Lib.hid hv1; clear hv1 hts
      have HVR := Lib.hid hvr; clear hvr hv
      have hcl : (counts acc).length = acc.length := by simp [counts]
      have hvl : (vals acc).length = acc.length := by simp [vals]
      have hreach : acc.length ≤ n := by omega
      rcases List.eq_nil_or_concat acc with rfl | ⟨acc', ⟨m, x⟩, rfl⟩
      · obtain ⟨A1, c1', rfl, _, _, _⟩ := hI.form hcl
        obtain ⟨A2, c2', rfl, _, _⟩ := hV.form' hvl
        clear hcl hvl
        have HI := Lib.hid hI; clear hI
        have HV := Lib.hid hV; clear hV
        go_upto_region 8 with (first
          | (go_at_call 71; with_reducible refine (HP.out _).mono ?_; rintro e w1 ⟨rfl, hb2⟩)
          | (refine wpList_store_val rfl (.tmp 7) (.tmp 16) rfl wr.heap.size ⟨ku, iu, bu, su⟩ ⟨kv, iv, bv, sv⟩ rfl rfl ((Box.new wr ⟨kv, iv, bv, sv⟩).below hb2) ?_; intro wq hbq hgq hsq))
        have hIq : OwnI wq w.heap.size (.slice A1 0 c1') (counts []) := (((HI.out.alloc _).below hb2).keepB hgq (own_lt (HI.out) (Nat.le_refl _)))
        have hVq : OwnV wq w.heap.size (.slice A2 0 c2') (vals []) := (((HV.out.alloc _).below hb2).keepB hgq (own_lt (HV.out) (Nat.le_refl _)))
        have hbw : Below w.heap.size w wq := by
          refine (bthen (hb.alloc hb.size _) hb2 (Nat.le_refl _)).grown hgq ?_ (fun j hj => ?_)
          · exact (bthen (hb.alloc hb.size _) hb2 (Nat.le_refl _)).size
          · injection hj with hj; subst hj; exact hb.size
        clear hgq hsq hb2 c0 c1 c2 c3
        have hcs2 : cut (vs.take (k + 1)) = ([] : List (Nat × Val)) ++ [(1, ⟨ku, iu, bu, su⟩)] := by
          rw [HCS.out, ← HU.out]; exact push_other (lastIs_nil _)
        have HE := Lib.hid hcs2; clear hcs2
        have HIq := Lib.hid hIq; clear hIq
        have HVq := Lib.hid hVq; clear hVq
        have HBq := Lib.hid hbq; clear hbq
        go_quiet (fail)
        have hIz := HIq.out.drewN nq
        have hVz := HVq.out.drewN nq
        have hBz := HBq.out.drewN nq
        have hbz := below_drewN hbw nq
        clear HIq HVq HBq hbw HVR HP
        generalize wq.drewN nq = wz at *
        have HIz := Lib.hid hIz; clear hIz
        have HVz := Lib.hid hVz; clear hVz
        obtain ⟨q0, q1, q2, q3⟩ := hBz.cells
        simp only [] at q0 q1 q2 q3
        have HBz := Lib.hid hBz; clear hBz
        go_upto_region 10 with fail
        have hl1 : (counts ([] : List (Nat × Val))).length < few := by rw [counts_length]; simp; unfold few; omega
        have hl2 : (vals ([] : List (Nat × Val))).length < few := by rw [vals_length]; simp; unfold few; omega
        have hwz := hbz.size
        have hn1 : some wr.heap.size ≠ ((Value.slice A1 0 c1')).ownBlock := fun e => own_lt HI.out (Nat.le_refl _) e.symm
        have hn2 : some wr.heap.size ≠ ((Value.slice A2 0 c2')).ownBlock := fun e => own_lt HV.out (Nat.le_refl _) e.symm
        have hn3 : some wz.heap.size ≠ ((Value.slice A1 0 c1')).ownBlock := fun e => own_lt HIz.out (Nat.le_refl _) e.symm
        have hn4 : some (wz.heap.size + 1) ≠ ((Value.slice A1 0 c1')).ownBlock := fun e => own_lt HIz.out (Nat.le_succ _) e.symm
        have HN := Lib.hid (And.intro hn1 (And.intro hn2 (And.intro hn3 hn4))); clear hn1 hn2 hn3 hn4
        have hz1 : ∀ (o p : Obj), wz.heap.size + 1 < ((wz.alloc o).alloc p).drew.heap.size := fun o p => by simp
        have hz2 : ∀ (o p : Obj), wz.heap.size < ((wz.alloc o).alloc p).drew.heap.size := fun o p => by simp; omega
        go_region_held3 (fun w' => w'.cell? ⟨wr.heap.size, 0, none⟩ = some (.int .i64 ku) ∧ w'.cell? ⟨wr.heap.size, 1, none⟩ = some (.int .i64 iu) ∧ w'.cell? ⟨wr.heap.size, 2, none⟩ = some (.bool bu) ∧ w'.cell? ⟨wr.heap.size, 3, none⟩ = some (.string su))
          (first
            | go_keep
            | (obtain ⟨e0, e1, e2, e3⟩ := hBB.cells; exact ⟨e0, e1, e2, e3⟩)
            | (obtain ⟨e0, e1, e2, e3⟩ := hBA.cells; exact ⟨e0, e1, e2, e3⟩))
          ((first
            | (refine step_push_int rfl (.tmp 37) (.tmp 38) rfl w.heap.size (Value.slice A1 0 c1') (counts ([] : List (Nat × Val))) 1 wz.heap.size 1 rfl rfl (t := 3) (fr := (0, 0)) (heap_alloc_new wz _) (HIz.out.alloc _).drew hl1 (Below.size ((hbz.alloc hwz _).drew)) ?_
               intro u4' wA hA hgA hatA
               have hVA := ((HVz.out.alloc _).drew).keepI ((HIz.out.alloc _).drew) hgA
               have hBA := ((HBz.out.alloc _).drew).grown hgA HN.out.1
               have hbA := ((hbz.alloc hwz _).drew).grown hgA (Below.size ((hbz.alloc hwz _).drew)) (own_base HIz.out))
            | (refine step_push_int rfl (.tmp 37) (.tmp 38) rfl w.heap.size (Value.slice A1 0 c1') (counts ([] : List (Nat × Val))) 1 wz.heap.size 1 rfl rfl (t := 3) (fr := (0, 0)) (heap_alloc2_old wz _ _) ((HIz.out.alloc _).alloc _).drew hl1 (Below.size (((hbz.alloc hwz _).alloc (hbz.alloc hwz _).size _).drew)) ?_
               intro u4' wA hA hgA hatA
               have hVA := (((HVz.out.alloc _).alloc _).drew).keepI (((HIz.out.alloc _).alloc _).drew) hgA
               have hBA := (((HBz.out.alloc _).alloc _).drew).grown hgA HN.out.1
               have hbA := (((hbz.alloc hwz _).alloc (hbz.alloc hwz _).size _).drew).grown hgA (Below.size (((hbz.alloc hwz _).alloc (hbz.alloc hwz _).size _).drew)) (own_base HIz.out))
            | (refine step_push_int rfl (.tmp 37) (.tmp 38) rfl w.heap.size (Value.slice A1 0 c1') (counts ([] : List (Nat × Val))) 1 (wz.heap.size + 1) 1 rfl rfl (t := 3) (fr := (0, 0)) (heap_alloc2_new wz _ _) ((HIz.out.alloc _).alloc _).drew hl1 (Below.size (((hbz.alloc hwz _).alloc (hbz.alloc hwz _).size _).drew)) ?_
               intro u4' wA hA hgA hatA
               have hVA := (((HVz.out.alloc _).alloc _).drew).keepI (((HIz.out.alloc _).alloc _).drew) hgA
               have hBA := (((HBz.out.alloc _).alloc _).drew).grown hgA HN.out.1
               have hbA := (((hbz.alloc hwz _).alloc (hbz.alloc hwz _).size _).drew).grown hgA (Below.size (((hbz.alloc hwz _).alloc (hbz.alloc hwz _).size _).drew)) (own_base HIz.out))
            | (refine step_push_val rfl (.tmp 40) (.tmp 42) rfl w.heap.size (Value.slice A2 0 c2') (vals ([] : List (Nat × Val))) ⟨ku, iu, bu, su⟩ wA.heap.size 1 rfl rfl (t := 71) (fr := (0, 0)) (heap_alloc_new wA _) (hVA.alloc _) hl2 (Below.size (hbA.alloc hbA.size _)) ?_
               intro u5' wB hB5 hgB hatB
               have hIB := (hA.alloc _).keepV (hVA.alloc _) hgB
               have hBB := (hBA.alloc _).grown hgB HN.out.2.1
               have hbB := (hbA.alloc hbA.size _).grown hgB (Below.size (hbA.alloc hbA.size _)) (own_base hVA))
            | (refine step_push_val rfl (.tmp 40) (.tmp 42) rfl w.heap.size (Value.slice A2 0 c2') (vals ([] : List (Nat × Val))) ⟨ku, iu, bu, su⟩ (wz.heap.size + 1) 1 rfl rfl (t := 71) (fr := (0, 0)) ((hgA.block _ (hz1 _ _) HN.out.2.2.2).trans (heap_alloc2_new wz _ _)) (hVA) hl2 (Below.size (hbA)) ?_
               intro u5' wB hB5 hgB hatB
               have hIB := (hA).keepV (hVA) hgB
               have hBB := (hBA).grown hgB HN.out.2.1
               have hbB := (hbA).grown hgB (Below.size (hbA)) (own_base hVA))
            | (refine step_push_val rfl (.tmp 40) (.tmp 42) rfl w.heap.size (Value.slice A2 0 c2') (vals ([] : List (Nat × Val))) ⟨ku, iu, bu, su⟩ wz.heap.size 1 rfl rfl (t := 71) (fr := (0, 0)) ((hgA.block _ (hz2 _ _) HN.out.2.2.1).trans (heap_alloc2_old wz _ _)) (hVA) hl2 (Below.size (hbA)) ?_
               intro u5' wB hB5 hgB hatB
               have hIB := (hA).keepV (hVA) hgB
               have hBB := (hBA).grown hgB HN.out.2.1
               have hbB := (hbA).grown hgB (Below.size (hbA)) (own_base hVA))))
        all_goals
          have HA := Lib.hid hIB; clear hIB
          have HB := Lib.hid hB5; clear hB5
          clear hgA hgB hatA hatB hBA hBB hVA hA hbA HN HIz HVz HBz hz1 hz2 q0 q1 q2 q3
          go_wp2
          go_roundw
          case rel => exact ⟨k + 1, by omega, by go_num, by rw [HE.out, counts_append]; exact HA.out, by rw [HE.out, vals_append]; exact HB.out, hbB⟩
          case measure => simp [intOf]; omega
      · rw [List.concat_eq_append] at *
        have hal : (acc' ++ [(m, x)]).length = acc'.length + 1 := by simp
        obtain ⟨A1, c1', rfl, _, _, hI1⟩ := hI.form (hcl.trans hal)
        obtain ⟨A2, c2', rfl, hV1, _⟩ := hV.form' (hvl.trans hal)
        obtain ⟨g1, rfl, hB1, hg1, _, _⟩ := hI1 (by omega)
        obtain ⟨g2, o2, rfl, hg2, _⟩ := hV1.2 (by omega)
        obtain ⟨rfl⟩ : o2 = 0 := by
          rcases hV.2 with ⟨h, _⟩ | ⟨g, c, cur, h, _⟩
          · injection h with h; cases h
          · injection h with h; injection h with h; injection h
        have hmk : m ≤ k := by
          have := (cut_counts (vs.take k) (m, x) (by rw [HAcc.out]; simp)).2
          omega
        clear hI1 hV1 hcl hvl
        have HI := Lib.hid hI; clear hI
        have HV := Lib.hid hV; clear hV
        rw [hal] at hlen hreach
        clear hal
        go_upto_region 8 with (first
          | (go_at_call 71; with_reducible refine (HP.out _).mono ?_; rintro e w1 ⟨rfl, hb2⟩)
          | (refine wpList_store_val rfl (.tmp 7) (.tmp 16) rfl wr.heap.size ⟨ku, iu, bu, su⟩ ⟨kv, iv, bv, sv⟩ rfl rfl ((Box.new wr ⟨kv, iv, bv, sv⟩).below hb2) ?_; intro wq hbq hgq hsq))
        have hIq : OwnI wq w.heap.size (.slice (some ⟨g1, 0, none⟩) (acc'.length + 1) c1') (counts (acc' ++ [(m, x)])) := (((HI.out.alloc _).below hb2).keepB hgq (own_lt (HI.out) (Nat.le_refl _)))
        have hVq : OwnV wq w.heap.size (.slice (some ⟨g2, 0, none⟩) (acc'.length + 1) c2') (vals (acc' ++ [(m, x)])) := (((HV.out.alloc _).below hb2).keepB hgq (own_lt (HV.out) (Nat.le_refl _)))
        have hbw : Below w.heap.size w wq := by
          refine (bthen (hb.alloc hb.size _) hb2 (Nat.le_refl _)).grown hgq ?_ (fun j hj => ?_)
          · exact (bthen (hb.alloc hb.size _) hb2 (Nat.le_refl _)).size
          · injection hj with hj; subst hj; exact hb.size
        obtain ⟨q0, q1, q2, q3⟩ := hbq.cells
        simp only [] at q0 q1 q2 q3
        obtain ⟨_, _, hVs, hVr, _⟩ := hVq.form' (n := acc'.length + 1) (by rw [vals_length]; simp)
        injection hVs with hVs1 _ hVs2
        subst hVs1
        obtain ⟨b2, o2, x', hx', hA2, _, d0, d1, d2, d3⟩ := hVr.at_ (k := acc'.length) (by omega)
        injection hA2 with hA2
        injection hA2 with hA2 hA3
        subst hA2 hA3
        have hxx : x' = x := by
          rw [vals_append, List.getElem?_append_right (by rw [vals_length]; omega), vals_length] at hx'
          simpa [vals] using hx'.symm
        subst hxx
        obtain ⟨_, _, hIs, _, _, hIc⟩ := hIq.form (n := acc'.length + 1) (by rw [counts_length]; simp)
        injection hIs with hIs1 _ hIs2
        subst hIs1
        subst hIs2
        obtain ⟨_, hI2, _, _, hfz, hic⟩ := hIc (by omega)
        injection hI2 with hI2
        injection hI2 with hI2
        subst hI2
        have hfz := hfz acc'.length
        have hic : wq.cell? ⟨g1, acc'.length, none⟩ = some (.int .i64 m) := by
          rw [hic acc'.length (by rw [counts_length]; simp)]
          simp [counts]
        obtain ⟨kx, ix, bx, sx⟩ := x'
        simp only [Nat.zero_add] at d0 d1 d2 d3
        have HIq := Lib.hid hIq; clear hIq
        have HVq := Lib.hid hVq; clear hVq
        have HBq := Lib.hid hbq; clear hbq
        clear hVr hx' hVs2 hIc hgq hsq hb2 c0 c1 c2 c3
        have hg := fun x y W => guard_val .eql x y #[.int .i64 kx, .int .i64 ix, .bool bx, .string sx] #[.int .i64 ku, .int .i64 iu, .bool bu, .string su] W
        by_cases he : (⟨kx, ix, bx, sx⟩ : Val) = ⟨ku, iu, bu, su⟩
        · have hq : ∀ W, (binOp .eql 71 (.agg #[.int .i64 kx, .int .i64 ix, .bool bx, .string sx]) (.agg #[.int .i64 ku, .int .i64 iu, .bool bu, .string su])).run Tryz.prog W = .ok (.bool true) W := fun W => by
            rw [eql_val ⟨kx, ix, bx, sx⟩ ⟨ku, iu, bu, su⟩ W, decide_eq_true he]
          have HE := Lib.hid he; clear he
          go_quiet (fail)
          go_wp2
          go_roundw
          case rel =>
            have R := rel_inc rfl (HIq.out.drewN nq) (HVq.out.drewN nq)
            have e : cut (vs.take (k + 1)) = acc' ++ [(m + 1, ⟨kx, ix, bx, sx⟩)] := by rw [HCS.out]; exact push_same (HE.out.trans HU.out.symm)
            exact ⟨k + 1, by omega, by go_num, by rw [e]; exact R.1, by rw [e]; exact R.2, (below_drewN hbw _).setCell (p := ⟨g1, acc'.length, none⟩) hB1 _⟩
          case measure => simp [intOf]; omega
        · have hq : ∀ W, (binOp .eql 71 (.agg #[.int .i64 kx, .int .i64 ix, .bool bx, .string sx]) (.agg #[.int .i64 ku, .int .i64 iu, .bool bu, .string su])).run Tryz.prog W = .ok (.bool false) W := fun W => by
            rw [eql_val ⟨kx, ix, bx, sx⟩ ⟨ku, iu, bu, su⟩ W, decide_eq_false he]
          have hcs2 : cut (vs.take (k + 1)) = (acc' ++ [(m, ⟨kx, ix, bx, sx⟩)]) ++ [(1, ⟨ku, iu, bu, su⟩)] := by
            rw [HCS.out, ← HU.out]; refine push_other ?_
            rw [lastIs_snoc, HU.out]; exact decide_eq_false he
          have HE := Lib.hid hcs2; clear he hcs2
          go_quiet (fail)
          have hIz := HIq.out.drewN nq
          have hVz := HVq.out.drewN nq
          have hBz := HBq.out.drewN nq
          have hbz := below_drewN hbw nq
          clear HIq HVq HBq hbw HVR HP d0 d1 d2 d3 q0 q1 q2 q3 hfz hic hq hg
          generalize wq.drewN nq = wz at *
          have HIz := Lib.hid hIz; clear hIz
          have HVz := Lib.hid hVz; clear hVz
          obtain ⟨q0, q1, q2, q3⟩ := hBz.cells
          simp only [] at q0 q1 q2 q3
          have HBz := Lib.hid hBz; clear hBz
          go_upto_region 10 with fail
          have hl1 : (counts (acc' ++ [(m, ⟨kx, ix, bx, sx⟩)])).length < few := by rw [counts_length]; simp; unfold few; omega
          have hl2 : (vals (acc' ++ [(m, ⟨kx, ix, bx, sx⟩)])).length < few := by rw [vals_length]; simp; unfold few; omega
          have hwz := hbz.size
          have hn1 : some wr.heap.size ≠ ((Value.slice (some ⟨g1, 0, none⟩) (acc'.length + 1) c1')).ownBlock := fun e => own_lt HI.out (Nat.le_refl _) e.symm
          have hn2 : some wr.heap.size ≠ ((Value.slice (some ⟨g2, 0, none⟩) (acc'.length + 1) c2')).ownBlock := fun e => own_lt HV.out (Nat.le_refl _) e.symm
          have hn3 : some wz.heap.size ≠ ((Value.slice (some ⟨g1, 0, none⟩) (acc'.length + 1) c1')).ownBlock := fun e => own_lt HIz.out (Nat.le_refl _) e.symm
          have hn4 : some (wz.heap.size + 1) ≠ ((Value.slice (some ⟨g1, 0, none⟩) (acc'.length + 1) c1')).ownBlock := fun e => own_lt HIz.out (Nat.le_succ _) e.symm
          have HN := Lib.hid (And.intro hn1 (And.intro hn2 (And.intro hn3 hn4))); clear hn1 hn2 hn3 hn4
          have hz1 : ∀ (o p : Obj), wz.heap.size + 1 < ((wz.alloc o).alloc p).drew.heap.size := fun o p => by simp
          have hz2 : ∀ (o p : Obj), wz.heap.size < ((wz.alloc o).alloc p).drew.heap.size := fun o p => by simp; omega
          go_region_held3 (fun w' => w'.cell? ⟨wr.heap.size, 0, none⟩ = some (.int .i64 ku) ∧ w'.cell? ⟨wr.heap.size, 1, none⟩ = some (.int .i64 iu) ∧ w'.cell? ⟨wr.heap.size, 2, none⟩ = some (.bool bu) ∧ w'.cell? ⟨wr.heap.size, 3, none⟩ = some (.string su))
            (first
              | go_keep
              | (obtain ⟨e0, e1, e2, e3⟩ := hBB.cells; exact ⟨e0, e1, e2, e3⟩)
              | (obtain ⟨e0, e1, e2, e3⟩ := hBA.cells; exact ⟨e0, e1, e2, e3⟩))
            ((first
              | (refine step_push_int rfl (.tmp 37) (.tmp 38) rfl w.heap.size (Value.slice (some ⟨g1, 0, none⟩) (acc'.length + 1) c1') (counts (acc' ++ [(m, ⟨kx, ix, bx, sx⟩)])) 1 wz.heap.size 1 rfl rfl (t := 3) (fr := (0, 0)) (heap_alloc_new wz _) (HIz.out.alloc _).drew hl1 (Below.size ((hbz.alloc hwz _).drew)) ?_
                 intro u4' wA hA hgA hatA
                 have hVA := ((HVz.out.alloc _).drew).keepI ((HIz.out.alloc _).drew) hgA
                 have hBA := ((HBz.out.alloc _).drew).grown hgA HN.out.1
                 have hbA := ((hbz.alloc hwz _).drew).grown hgA (Below.size ((hbz.alloc hwz _).drew)) (own_base HIz.out))
              | (refine step_push_int rfl (.tmp 37) (.tmp 38) rfl w.heap.size (Value.slice (some ⟨g1, 0, none⟩) (acc'.length + 1) c1') (counts (acc' ++ [(m, ⟨kx, ix, bx, sx⟩)])) 1 wz.heap.size 1 rfl rfl (t := 3) (fr := (0, 0)) (heap_alloc2_old wz _ _) ((HIz.out.alloc _).alloc _).drew hl1 (Below.size (((hbz.alloc hwz _).alloc (hbz.alloc hwz _).size _).drew)) ?_
                 intro u4' wA hA hgA hatA
                 have hVA := (((HVz.out.alloc _).alloc _).drew).keepI (((HIz.out.alloc _).alloc _).drew) hgA
                 have hBA := (((HBz.out.alloc _).alloc _).drew).grown hgA HN.out.1
                 have hbA := (((hbz.alloc hwz _).alloc (hbz.alloc hwz _).size _).drew).grown hgA (Below.size (((hbz.alloc hwz _).alloc (hbz.alloc hwz _).size _).drew)) (own_base HIz.out))
              | (refine step_push_int rfl (.tmp 37) (.tmp 38) rfl w.heap.size (Value.slice (some ⟨g1, 0, none⟩) (acc'.length + 1) c1') (counts (acc' ++ [(m, ⟨kx, ix, bx, sx⟩)])) 1 (wz.heap.size + 1) 1 rfl rfl (t := 3) (fr := (0, 0)) (heap_alloc2_new wz _ _) ((HIz.out.alloc _).alloc _).drew hl1 (Below.size (((hbz.alloc hwz _).alloc (hbz.alloc hwz _).size _).drew)) ?_
                 intro u4' wA hA hgA hatA
                 have hVA := (((HVz.out.alloc _).alloc _).drew).keepI (((HIz.out.alloc _).alloc _).drew) hgA
                 have hBA := (((HBz.out.alloc _).alloc _).drew).grown hgA HN.out.1
                 have hbA := (((hbz.alloc hwz _).alloc (hbz.alloc hwz _).size _).drew).grown hgA (Below.size (((hbz.alloc hwz _).alloc (hbz.alloc hwz _).size _).drew)) (own_base HIz.out))
              | (refine step_push_val rfl (.tmp 40) (.tmp 42) rfl w.heap.size (Value.slice (some ⟨g2, 0, none⟩) (acc'.length + 1) c2') (vals (acc' ++ [(m, ⟨kx, ix, bx, sx⟩)])) ⟨ku, iu, bu, su⟩ wA.heap.size 1 rfl rfl (t := 71) (fr := (0, 0)) (heap_alloc_new wA _) (hVA.alloc _) hl2 (Below.size (hbA.alloc hbA.size _)) ?_
                 intro u5' wB hB5 hgB hatB
                 have hIB := (hA.alloc _).keepV (hVA.alloc _) hgB
                 have hBB := (hBA.alloc _).grown hgB HN.out.2.1
                 have hbB := (hbA.alloc hbA.size _).grown hgB (Below.size (hbA.alloc hbA.size _)) (own_base hVA))
              | (refine step_push_val rfl (.tmp 40) (.tmp 42) rfl w.heap.size (Value.slice (some ⟨g2, 0, none⟩) (acc'.length + 1) c2') (vals (acc' ++ [(m, ⟨kx, ix, bx, sx⟩)])) ⟨ku, iu, bu, su⟩ (wz.heap.size + 1) 1 rfl rfl (t := 71) (fr := (0, 0)) ((hgA.block _ (hz1 _ _) HN.out.2.2.2).trans (heap_alloc2_new wz _ _)) (hVA) hl2 (Below.size (hbA)) ?_
                 intro u5' wB hB5 hgB hatB
                 have hIB := (hA).keepV (hVA) hgB
                 have hBB := (hBA).grown hgB HN.out.2.1
                 have hbB := (hbA).grown hgB (Below.size (hbA)) (own_base hVA))
              | (refine step_push_val rfl (.tmp 40) (.tmp 42) rfl w.heap.size (Value.slice (some ⟨g2, 0, none⟩) (acc'.length + 1) c2') (vals (acc' ++ [(m, ⟨kx, ix, bx, sx⟩)])) ⟨ku, iu, bu, su⟩ wz.heap.size 1 rfl rfl (t := 71) (fr := (0, 0)) ((hgA.block _ (hz2 _ _) HN.out.2.2.1).trans (heap_alloc2_old wz _ _)) (hVA) hl2 (Below.size (hbA)) ?_
                 intro u5' wB hB5 hgB hatB
                 have hIB := (hA).keepV (hVA) hgB
                 have hBB := (hBA).grown hgB HN.out.2.1
                 have hbB := (hbA).grown hgB (Below.size (hbA)) (own_base hVA))))
          all_goals
            have HA := Lib.hid hIB; clear hIB
            have HB := Lib.hid hB5; clear hB5
            clear hgA hgB hatA hatB hBA hBB hVA hA hbA HN HIz HVz HBz hz1 hz2 q0 q1 q2 q3
            go_wp2
            go_roundw
            case rel => exact ⟨k + 1, by omega, by go_num, by rw [HE.out, counts_append]; exact HA.out, by rw [HE.out, vals_append]; exact HB.out, hbB⟩
            case measure => simp [intOf]; omega
    · have he : vs.take k = vs := List.take_of_length_le (by rw [hv.1]; omega)
      rw [he] at hI hV
      have HI := Lib.hid hI; clear hI
      have HV := Lib.hid hV; clear hV
      go_wp2
      go_ret2
      exact ⟨_, _, rfl, HI.out, HV.out, hb⟩
end Go.Proofs.YtgmemdedpklnhaaGreat.Runs

/-
  THE WALK of words.Build.
-/






namespace Go.Proofs.YtgmemdedpklnhaaGreat.Words
open Go.RowKit ValMath Vals Sl MapV

theorem fine_clean {v : Val} (h : Fine v) : Fine (clean v) := by
  obtain ⟨h1, h2, h3, h4, h5⟩ := h
  have hk := clean_kind v
  have hi := fun (h0 : -9223372036854775808 ≤ v.i ∧ v.i < 9223372036854775808) => show -9223372036854775808 ≤ (clean v).i ∧ (clean v).i < 9223372036854775808 from by
    unfold clean nul
    split
    · exact h0
    · split
      · simp
      · split <;> simp
  have hi2 := hi ⟨h3, h4⟩
  refine ⟨?_, ?_, hi2.1, hi2.2, Nat.le_trans (clean_size v) h5⟩
  · rw [hk]; split <;> omega
  · rw [hk]; split <;> omega
theorem iat_snoc (l : List Nat) (x : Nat) : iat (l ++ [x]) = iat l ++ [(x : Int)] := by simp [iat]
theorem iat_length (l : List Nat) : (iat l).length = l.length := by simp [iat]
theorem add_known {s : List Val × List Nat} {v : Val} (h : clean v ∈ s.1) : addW s v = (s.1, s.2 ++ [place s.1 (clean v)]) := by unfold addW; rw [if_pos (place_lt.2 h)]
theorem place_new {ws : List Val} {u : Val} (h : u ∉ ws) : place ws u = ws.length := by
  have h1 := place_le ws u
  have h2 : ¬ place ws u < ws.length := fun h3 => h (place_lt.1 h3)
  omega
theorem add_new {s : List Val × List Nat} {v : Val} (h : clean v ∉ s.1) : addW s v = (s.1 ++ [clean v], s.2 ++ [s.1.length]) := by
  unfold addW; rw [if_neg (fun h3 => h (place_lt.1 h3)), place_new h]

set_option maxRecDepth 100000 in
set_option maxHeartbeats 8000000 in
theorem build_any (A : Option Addr) (n c : Nat) (vs : List Val) (w : World) (hv : VSl w A n vs) (hn : n * 40 ≤ 140737488355280) (hf : ∀ v ∈ vs, Fine v) :
    Calls Tryz.prog 112 #[.slice A n c] w fun e w' => ∃ u1 u2, e = .returned (.tuple #[u1, u2]) ∧ OwnV w' w.heap.size u1 (build vs).1 ∧ OwnI w' w.heap.size u2 (iat (build vs).2) ∧ Below w.heap.size w w' := by
  have hlen := hv.1
  have HF := Lib.hid (And.intro hf hlen); clear hf hlen
  have hmm := @run_makeMap Tryz.prog
  go_enter Tryz.func112, Tryz.ntmps112
  go_wp2
  go_loopw [5, 6, 14] (fun pv qv iv wr => ∃ k m : Nat, k ≤ n ∧ m ≤ k ∧ iv = .int .i64 k ∧ OwnV wr w.heap.size pv (build (vs.take k)).1 ∧ OwnI wr w.heap.size qv (iat (build (vs.take k)).2) ∧ Places wr w.heap.size m (build (vs.take k)).1 ∧ Below w.heap.size w wr) (fun _ _ iv _ => n - (intOf iv).toNat)
  case atStart => exact ⟨0, 0, Nat.zero_le _, Nat.zero_le _, rfl, OwnV.nil _ _, OwnI.nil _ _, Places.made w, Vals.one_new _⟩
  case round =>
    obtain ⟨k, m, hk, hm, rfl, hV, hI, hP, hb⟩ := hrel
    have hw1 := build_ws_length (vs.take k)
    have hw2 := build_at_length (vs.take k)
    have hlk : (vs.take k).length ≤ k := List.length_take_le _ _
    by_cases hkn : k < n
    · obtain ⟨b1, o1, v, hv1, rfl, hb1, c0, c1, c2, c3⟩ := (hv.below hb).at_ hkn
      have hts : build (vs.take (k + 1)) = addW (build (vs.take k)) v := by rw [take_more hv1, build_snoc]
      have hfu := fine_clean (HF.out.1 v (List.mem_of_getElem? hv1))
      have hp := plain_any v
      have hk1 := add_known (s := build (vs.take k)) (v := v)
      have hk2 := add_new (s := build (vs.take k)) (v := v)
      rw [← hts] at hk1 hk2
      obtain ⟨A5, c5, rfl, _, _⟩ := hV.form' (n := (build (vs.take k)).1.length) rfl
      generalize build (vs.take k) = S at *
      obtain ⟨W, P⟩ := S
      simp only [] at hV hI hP hw1 hw2 hk1 hk2
      generalize clean v = u at *
      have hszr := hb.size
      have hnb : ∀ {z m : Nat} {e : TypeId} {v : Value} {xs : List Value}, wr.ownsRow w.heap.size e z v m xs → v.ownBlock ≠ some wr.heap.size := fun h => own_lt h (Nat.le_refl _)
      have hnV : (Value.slice A5 W.length c5).ownBlock ≠ some wr.heap.size := hnb hV
      have hnI : u6.ownBlock ≠ some wr.heap.size := hnb hI
      have hmlt := hP.lt
      have hflV : W.length < few := by unfold few; omega
      have hflI : (iat P).length < few := by rw [iat_length]; unfold few; omega
      have HV := Lib.hid hV; clear hV
      have HI := Lib.hid hI; clear hI
      have HP := Lib.hid hP; clear hP
      have HFL := Lib.hid (And.intro hflV hflI); clear hflV hflI hnb hts
      have HFU := Lib.hid hfu; clear hfu
      by_cases hmem : u ∈ W
      · have e := hk1 hmem
        have HE := Lib.hid (show build (vs.take (k + 1)) = (W, P ++ [place W u]) from e)
        have hd : decide (u ∈ W) = true := decide_eq_true hmem
        have hpn := place_le W u
        have HMEM := Lib.hid hmem
        clear hk1 hk2 e hv1 hmem
        obtain ⟨pk, hpk⟩ : ∃ pk, pk = place W u := ⟨_, rfl⟩
        rw [← hpk] at HE hpn
        have HPK := Lib.hid hpk; clear hpk
        obtain ⟨kv, iv, bv, sv⟩ := v
        have hud : ∀ x : Val, decide (x ∈ W) = decide (x ∈ W) := fun _ => rfl
        clear hud
        obtain ⟨ku, iu, bu, su⟩ := u
        simp only [vagg] at c0 c1 c2 c3 hp
        have HPL := Lib.hid hp; clear hp
        go_wp2_with (first
          | (go_at_call 71; (with_reducible refine (HPL.out _).mono ?_); rintro e w1 ⟨rfl, hb2⟩; have HB1 := Lib.hid ((Box.new wr ⟨kv, iv, bv, sv⟩).below hb2); have HV1 := Lib.hid ((HV.out.alloc (.cells #[.int .i64 kv, .int .i64 iv, .bool bv, .string sv] 71)).below hb2); have HI1 := Lib.hid ((HI.out.alloc (.cells #[.int .i64 kv, .int .i64 iv, .bool bv, .string sv] 71)).below hb2); have HP1 := Lib.hid ((HP.out.alloc (.cells #[.int .i64 kv, .int .i64 iv, .bool bv, .string sv] 71)).below hb2); have HBT1 := Lib.hid (bthen (hb.alloc hb.size (.cells #[.int .i64 kv, .int .i64 iv, .bool bv, .string sv] 71)) hb2 (Nat.le_refl _)); clear hb2)
          | (refine wpList_store_val rfl (.tmp 8) (.tmp 19) rfl wr.heap.size ⟨ku, iu, bu, su⟩ ⟨kv, iv, bv, sv⟩ rfl rfl HB1.out ?_; intro wq hBq hgq hsq; have HBq := Lib.hid hBq; have HVq := Lib.hid (HV1.out.keepB hgq hnV); have HIq := Lib.hid (HI1.out.keepB hgq hnI); have HPq := Lib.hid (HP1.out.kept hgq (by simp; omega)); have HBTq := Lib.hid (HBT1.out.grown hgq HBT1.out.size (fun j hj => by simp at hj; omega)); clear hgq hBq hsq; have hszq := HBTq.out.size; obtain ⟨y0, y1, y2, y3⟩ := HBq.out.cells; (try simp only [] at y0 y1 y2 y3))
          | (at_lookup; (refine wpList_places_look rfl (.tmp 21) (.tmp 22) rfl w.heap.size m W ⟨ku, iu, bu, su⟩ rfl HPq.out rfl HFU.out ?_; intro cc hcc; rw [hd]); (have hcc2 : cc = (pk : Int) := by (rw [HPK.out]; exact hcc HMEM.out)); (clear hcc; subst hcc2))
          | (at_builtin; ((refine wpList_push_int (t := 3) (fr := (0, 0)) rfl (.tmp 37) (.tmp 39) rfl w.heap.size u6 (iat P) (pk : Int) wq.heap.size 1 rfl rfl (heap_alloc_new wq (.cells #[.int .i64 (pk : Int)] 3)) (HIq.out.alloc (.cells #[.int .i64 (pk : Int)] 3)) HFL.out.2 (Below.size (HBTq.out.alloc HBTq.out.size (.cells #[.int .i64 (pk : Int)] 3))) ?_; intro u2 wB hI2 hgB hatB)); ((have hV2 := (HVq.out.alloc (.cells #[.int .i64 (pk : Int)] 3)).keepI (HIq.out.alloc _) hgB)); ((have hP2 := (HPq.out.alloc (.cells #[.int .i64 (pk : Int)] 3)).kept hgB (HPq.out.no_row HIq.out))); ((have hbB := (HBTq.out.alloc HBTq.out.size (.cells #[.int .i64 (pk : Int)] 3)).grown hgB (Below.size (HBTq.out.alloc HBTq.out.size _)) (own_base HIq.out))); ((have HR := Lib.hid (And.intro hI2 (And.intro hV2 (And.intro hP2 hbB))))); ((clear hI2 hV2 hP2 hbB))))
        go_roundw
        case rel => exact ⟨k + 1, m, by omega, by omega, by go_num, by rw [HE.out]; exact HR.out.2.1, by rw [HE.out, iat_snoc]; exact HR.out.1, by rw [HE.out]; exact HR.out.2.2.1, HR.out.2.2.2⟩
        case measure => simp [intOf]; omega
      · have e := hk2 hmem
        have HE := Lib.hid (show build (vs.take (k + 1)) = (W ++ [u], P ++ [W.length]) from e)
        have hd : decide (u ∈ W) = false := decide_eq_false hmem
        have HNEW := Lib.hid hmem
        have hWm : W.length < maxLen := by unfold maxLen; omega
        have hmm2 : m < maxLen := by unfold maxLen; omega
        have HM := Lib.hid (And.intro hWm hmm2); clear hWm hmm2
        clear hk1 hk2 e hv1 hmem
        obtain ⟨kv, iv, bv, sv⟩ := v
        obtain ⟨ku, iu, bu, su⟩ := u
        simp only [vagg] at c0 c1 c2 c3 hp
        have HPL := Lib.hid hp; clear hp
        go_wp2_with (first
          | (go_at_call 71; (with_reducible refine (HPL.out _).mono ?_); rintro e w1 ⟨rfl, hb2⟩; have HB1 := Lib.hid ((Box.new wr ⟨kv, iv, bv, sv⟩).below hb2); have HV1 := Lib.hid ((HV.out.alloc (.cells #[.int .i64 kv, .int .i64 iv, .bool bv, .string sv] 71)).below hb2); have HI1 := Lib.hid ((HI.out.alloc (.cells #[.int .i64 kv, .int .i64 iv, .bool bv, .string sv] 71)).below hb2); have HP1 := Lib.hid ((HP.out.alloc (.cells #[.int .i64 kv, .int .i64 iv, .bool bv, .string sv] 71)).below hb2); have HBT1 := Lib.hid (bthen (hb.alloc hb.size (.cells #[.int .i64 kv, .int .i64 iv, .bool bv, .string sv] 71)) hb2 (Nat.le_refl _)); clear hb2)
          | (refine wpList_store_val rfl (.tmp 8) (.tmp 19) rfl wr.heap.size ⟨ku, iu, bu, su⟩ ⟨kv, iv, bv, sv⟩ rfl rfl HB1.out ?_; intro wq hBq hgq hsq; have HBq := Lib.hid hBq; have HVq := Lib.hid (HV1.out.keepB hgq hnV); have HIq := Lib.hid (HI1.out.keepB hgq hnI); have HPq := Lib.hid (HP1.out.kept hgq (by simp; omega)); have HBTq := Lib.hid (HBT1.out.grown hgq HBT1.out.size (fun j hj => by simp at hj; omega)); clear hgq hBq hsq; have hszq := HBTq.out.size; obtain ⟨y0, y1, y2, y3⟩ := HBq.out.cells; (try simp only [] at y0 y1 y2 y3))
          | (at_lookup; (refine wpList_places_look rfl (.tmp 21) (.tmp 22) rfl w.heap.size m W ⟨ku, iu, bu, su⟩ rfl HPq.out rfl HFU.out ?_; intro cc hcc; rw [hd]; clear hcc))
          | (at_mapUpdate; (refine wpList_places_put rfl (.tmp 30) (.tmp 31) (.tmp 32) rfl w.heap.size m W ⟨ku, iu, bu, su⟩ rfl HPq.out HM.out.2 rfl HFU.out HNEW.out W.length rfl HM.out.1 rfl ?_; intro wm hPm hgm); (have HPm := Lib.hid hPm; have HVm := Lib.hid (HVq.out.keepB hgm (Ne.symm (HPq.out.no_row HVq.out))); have HIm := Lib.hid (HIq.out.keepB hgm (Ne.symm (HPq.out.no_row HIq.out))); have HBTm := Lib.hid (HBTq.out.grown hgm HBTq.out.size (fun j hj => by simp at hj; omega)); have hszm := HBTm.out.size; have HBm := Lib.hid (HBq.out.grown hgm (by simp; omega)); obtain ⟨z0, z1, z2, z3⟩ := HBm.out.cells; (try simp only [] at z0 z1 z2 z3); clear hPm hgm))
          | (at_builtin; ((refine wpList_push_val (t := 71) (fr := (0, 0)) rfl (.tmp 33) (.tmp 35) rfl w.heap.size (.slice A5 W.length c5) W ⟨ku, iu, bu, su⟩ wm.heap.size 1 rfl rfl (heap_alloc_new wm (.cells #[.int .i64 ku, .int .i64 iu, .bool bu, .string su] 71)) (HVm.out.alloc (.cells #[.int .i64 ku, .int .i64 iu, .bool bu, .string su] 71)) HFL.out.1 (Below.size (HBTm.out.alloc HBTm.out.size (.cells #[.int .i64 ku, .int .i64 iu, .bool bu, .string su] 71))) ?_; intro u1 wV hV2 hgV hatV)); ((have HI3 := Lib.hid ((HIm.out.alloc (.cells #[.int .i64 ku, .int .i64 iu, .bool bu, .string su] 71)).keepV (HVm.out.alloc _) hgV))); ((have HP3 := Lib.hid ((HPm.out.alloc (.cells #[.int .i64 ku, .int .i64 iu, .bool bu, .string su] 71)).kept hgV (HPm.out.no_row HVm.out)))); ((have HB3 := Lib.hid ((HBTm.out.alloc HBTm.out.size (.cells #[.int .i64 ku, .int .i64 iu, .bool bu, .string su] 71)).grown hgV (Below.size (HBTm.out.alloc HBTm.out.size _)) (own_base HVm.out)))); ((have HV3 := Lib.hid hV2)); ((have hszV := HB3.out.size)); ((clear hV2 hgV hatV)))
          | (at_builtin; ((refine wpList_push_int (t := 3) (fr := (0, 0)) rfl (.tmp 37) (.tmp 39) rfl w.heap.size u6 (iat P) (W.length : Int) wV.heap.size 1 rfl rfl (heap_alloc_new wV (.cells #[.int .i64 (W.length : Int)] 3)) (HI3.out.alloc (.cells #[.int .i64 (W.length : Int)] 3)) HFL.out.2 (Below.size (HB3.out.alloc HB3.out.size (.cells #[.int .i64 (W.length : Int)] 3))) ?_; intro u2 wB hI2 hgB hatB)); ((have hV2 := (HV3.out.alloc (.cells #[.int .i64 (W.length : Int)] 3)).keepI (HI3.out.alloc _) hgB)); ((have hP2 := (HP3.out.alloc (.cells #[.int .i64 (W.length : Int)] 3)).kept hgB (HP3.out.no_row HI3.out))); ((have hbB := (HB3.out.alloc HB3.out.size (.cells #[.int .i64 (W.length : Int)] 3)).grown hgB (Below.size (HB3.out.alloc HB3.out.size _)) (own_base HI3.out))); ((have HR := Lib.hid (And.intro hI2 (And.intro hV2 (And.intro hP2 hbB))))); ((clear hI2 hV2 hP2 hbB))))
        go_roundw
        case rel => exact ⟨k + 1, m + 1, by omega, by omega, by go_num, by rw [HE.out]; exact HR.out.2.1, by rw [HE.out, iat_snoc]; exact HR.out.1, by rw [HE.out]; exact HR.out.2.2.1, HR.out.2.2.2⟩
        case measure => simp [intOf]; omega
    · obtain rfl : n = k := by omega
      have htk : vs.take n = vs := List.take_of_length_le (by rw [HF.out.2]; exact Nat.le_refl _)
      rw [htk] at hV hI
      have HV := Lib.hid hV; clear hV
      have HI := Lib.hid hI; clear hI hP
      go_wp2
      go_ret2
      exact ⟨_, _, rfl, HV.out, HI.out, hb⟩
end Go.Proofs.YtgmemdedpklnhaaGreat.Words

/-
  THE WALK of words.Look.
-/

namespace Go.Proofs.YtgmemdedpklnhaaGreat.Words
open Go.RowKit ValMath Vals Sl MapV

def lookVals (ws : List Val) (ks : List Int) : List Val := (ValMath.look ws ks).getD []
def lookCode (ws : List Val) (ks : List Int) : Int := if (ValMath.look ws ks).isSome then 0 else 800
/-- What one place gives. -/
def lookAt (ws : List Val) (a : Int) : Val := clean (ws.getD a.toNat nul)
theorem look_none {ws : List Val} {ks : List Int} (h : ValMath.look ws ks = none) : lookVals ws ks = [] ∧ lookCode ws ks = 800 := by unfold lookVals lookCode; rw [h]; exact ⟨rfl, rfl⟩
theorem look_some {ws : List Val} {ks : List Int} {out : List Val} (h : ValMath.look ws ks = some out) : lookVals ws ks = out ∧ lookCode ws ks = 0 := by unfold lookVals lookCode; rw [h]; exact ⟨rfl, rfl⟩
theorem look_dup {ws : List Val} {ks : List Int} (h : ¬ (ws.map clean).Nodup) : lookVals ws ks = [] ∧ lookCode ws ks = 800 := look_none (by unfold ValMath.look; rw [if_neg (fun h2 => h h2.1)])
theorem look_out {ws : List Val} {ks : List Int} {a : Int} (h : a ∈ ks) (h2 : ¬ (0 ≤ a ∧ a < (ws.length : Int))) : lookVals ws ks = [] ∧ lookCode ws ks = 800 := look_none (by unfold ValMath.look; rw [if_neg (fun h3 => h2 (h3.2 a h))])
theorem look_all {ws : List Val} {ks : List Int} (h : (ws.map clean).Nodup) (h2 : ∀ a ∈ ks, 0 ≤ a ∧ a < (ws.length : Int)) : lookVals ws ks = ks.map (lookAt ws) ∧ lookCode ws ks = 0 := look_some (by unfold ValMath.look; rw [if_pos ⟨h, h2⟩]; rfl)
theorem take_nodup {ws : List Val} {k : Nat} {v : Val} (h : ws[k]? = some v) (h2 : clean v ∈ (ws.take k).map clean) : ¬ (ws.map clean).Nodup := by
  intro hn
  have e : ws.map clean = (ws.take k).map clean ++ (ws.drop k).map clean := by rw [← List.map_append, List.take_append_drop]
  rw [e, List.nodup_append] at hn
  refine hn.2.2 _ h2 (clean v) ?_ rfl
  refine List.mem_map_of_mem ?_
  have hl : k < ws.length := by
    rcases Nat.lt_or_ge k ws.length with h3 | h3
    · exact h3
    · rw [List.getElem?_eq_none h3] at h; cases h
  rw [List.mem_iff_getElem?]
  exact ⟨0, by rw [List.getElem?_drop]; exact h⟩
theorem nodup_snoc {l : List Val} {u : Val} (h : l.Nodup) (h2 : u ∉ l) : (l ++ [u]).Nodup := by
  rw [List.nodup_append]
  refine ⟨h, by simp, fun a ha b hb => ?_⟩
  simp at hb; subst hb
  intro e; subst e; exact h2 ha
theorem ret_vi {u : Value} {k : IntKind} {a b : Int} (h : a = b) : Ending.returned (.tuple #[u, .int k a]) = .returned (.tuple #[u, .int k b]) := by rw [h]
theorem take_int {l : List Int} {k : Nat} {x : Int} (h : l[k]? = some x) : l.take (k + 1) = l.take k ++ [x] := by rw [List.take_add_one, h]; rfl

set_option maxRecDepth 100000 in
set_option maxHeartbeats 8000000 in
theorem look_any (A C : Option Addr) (n c m d : Nat) (ws : List Val) (ks : List Int) (w : World) (hv : VSl w A n ws) (hx : ISl w C m ks) (hn : n * 40 ≤ 140737488355280) (hm : m * 40 ≤ 140737488355280) (hf : ∀ v ∈ ws, Fine v) :
    Calls Tryz.prog 107 #[.slice A n c, .slice C m d] w fun e w' => ∃ u, e = .returned (.tuple #[u, .int .i64 (lookCode ws ks)]) ∧ OwnV w' w.heap.size u (lookVals ws ks) ∧ Below w.heap.size w w' := by
  have hwl := hv.1
  have hkl := hx.1
  have HF := Lib.hid (And.intro hf (And.intro hwl hkl)); clear hf hwl hkl
  have hmm := @run_makeMap Tryz.prog
  go_enter Tryz.func107, Tryz.ntmps107
  go_wp2
  go_loopw [15] (fun iv wr => ∃ k : Nat, k ≤ n ∧ iv = .int .i64 k ∧ ((ws.take k).map clean).Nodup ∧ Seen wr w.heap.size k ((ws.take k).map clean) ∧ Below w.heap.size w wr) (fun iv _ => n - (intOf iv).toNat)
  case atStart => exact ⟨0, Nat.zero_le _, rfl, by simp, Seen.made w, Vals.one_new _⟩
  case round =>
    obtain ⟨k, hk, rfl, hN, hP, hb⟩ := hrel
    by_cases hkn : k < n
    · obtain ⟨b1, o1, v, hv1, rfl, hb1, c0, c1, c2, c3⟩ := (hv.below hb).at_ hkn
      have hts : (ws.take (k + 1)).map clean = (ws.take k).map clean ++ [clean v] := by rw [take_more hv1, List.map_append]; rfl
      have hfu := fine_clean (HF.out.1 v (List.mem_of_getElem? hv1))
      have hp := plain_any v
      have hdup := fun h => look_dup (ks := ks) (take_nodup hv1 h)
      have HTS := Lib.hid hts; clear hts hv1
      generalize (ws.take k).map clean = W at *
      generalize hu : clean v = u at *
      have HU := Lib.hid hu; clear hu
      have hszr := hb.size
      have hmlt := hP.lt
      have HP := Lib.hid hP; clear hP
      have HFU := Lib.hid hfu; clear hfu
      have HN := Lib.hid hN; clear hN
      have hkm : k < maxLen := by unfold maxLen; omega
      have HKM := Lib.hid hkm; clear hkm
      by_cases hmem : u ∈ W
      · have HB := Lib.hid (hdup hmem)
        have hd : decide (u ∈ W) = true := decide_eq_true hmem
        clear hdup hmem
        obtain ⟨kv, iv, bv, sv⟩ := v
        obtain ⟨ku, iu, bu, su⟩ := u
        simp only [vagg] at c0 c1 c2 c3 hp
        have HPL := Lib.hid hp; clear hp
        go_wp2_with (first
          | (go_at_call 71; (with_reducible refine (HPL.out _).mono ?_); rintro e w1 ⟨rfl, hb2⟩; have HB1 := Lib.hid ((Box.new wr ⟨kv, iv, bv, sv⟩).below hb2); have HP1 := Lib.hid ((HP.out.alloc (.cells #[.int .i64 kv, .int .i64 iv, .bool bv, .string sv] 71)).below hb2); have HBT1 := Lib.hid (bthen (hb.alloc hb.size (.cells #[.int .i64 kv, .int .i64 iv, .bool bv, .string sv] 71)) hb2 (Nat.le_refl _)); clear hb2)
          | (refine wpList_store_val rfl (.tmp 8) (.tmp 20) rfl wr.heap.size ⟨ku, iu, bu, su⟩ ⟨kv, iv, bv, sv⟩ rfl rfl HB1.out ?_; intro wq hBq hgq hsq; have HBq := Lib.hid hBq; have HPq := Lib.hid (HP1.out.kept hgq (by simp; omega)); have HBTq := Lib.hid (HBT1.out.grown hgq HBT1.out.size (fun j hj => by simp at hj; omega)); clear hgq hBq hsq; have hszq := HBTq.out.size; obtain ⟨y0, y1, y2, y3⟩ := HBq.out.cells; (try simp only [] at y0 y1 y2 y3))
          | (at_lookup; refine wpList_seen_look rfl (.tmp 21) (.tmp 22) rfl w.heap.size k W ⟨ku, iu, bu, su⟩ rfl HPq.out rfl HFU.out ?_; rw [hd]))
        go_ret2
        exact ⟨_, ret_vi HB.out.2.symm, by rw [HB.out.1]; exact OwnV.nil _ _, HBTq.out⟩
      · have HNN := Lib.hid (nodup_snoc HN.out hmem)
        have hd : decide (u ∈ W) = false := decide_eq_false hmem
        clear hdup hmem
        obtain ⟨kv, iv, bv, sv⟩ := v
        obtain ⟨ku, iu, bu, su⟩ := u
        simp only [vagg] at c0 c1 c2 c3 hp
        have HPL := Lib.hid hp; clear hp
        go_wp2_with (first
          | (go_at_call 71; (with_reducible refine (HPL.out _).mono ?_); rintro e w1 ⟨rfl, hb2⟩; have HB1 := Lib.hid ((Box.new wr ⟨kv, iv, bv, sv⟩).below hb2); have HP1 := Lib.hid ((HP.out.alloc (.cells #[.int .i64 kv, .int .i64 iv, .bool bv, .string sv] 71)).below hb2); have HBT1 := Lib.hid (bthen (hb.alloc hb.size (.cells #[.int .i64 kv, .int .i64 iv, .bool bv, .string sv] 71)) hb2 (Nat.le_refl _)); clear hb2)
          | (refine wpList_store_val rfl (.tmp 8) (.tmp 20) rfl wr.heap.size ⟨ku, iu, bu, su⟩ ⟨kv, iv, bv, sv⟩ rfl rfl HB1.out ?_; intro wq hBq hgq hsq; have HBq := Lib.hid hBq; have HPq := Lib.hid (HP1.out.kept hgq (by simp; omega)); have HBTq := Lib.hid (HBT1.out.grown hgq HBT1.out.size (fun j hj => by simp at hj; omega)); clear hgq hBq hsq; have hszq := HBTq.out.size; obtain ⟨y0, y1, y2, y3⟩ := HBq.out.cells; (try simp only [] at y0 y1 y2 y3))
          | (at_lookup; refine wpList_seen_look rfl (.tmp 21) (.tmp 22) rfl w.heap.size k W ⟨ku, iu, bu, su⟩ rfl HPq.out rfl HFU.out ?_; rw [hd])
          | (at_mapUpdate; refine wpList_seen_put rfl (.tmp 24) (.tmp 25) (.const (.bool true)) rfl w.heap.size k W ⟨ku, iu, bu, su⟩ rfl HPq.out HKM.out rfl HFU.out rfl ?_; intro wm hPm hgm; have HR := Lib.hid (And.intro hPm (HBTq.out.grown hgm HBTq.out.size (fun j hj => by simp at hj; omega))); clear hPm hgm))
        go_roundw
        case rel => exact ⟨k + 1, by omega, by go_num, by rw [HTS.out]; exact HNN.out, by rw [HTS.out]; exact HR.out.1, HR.out.2⟩
        case measure => simp [intOf]; omega
    · obtain rfl : n = k := by omega
      have htk : ws.take n = ws := List.take_of_length_le (by rw [HF.out.2.1]; exact Nat.le_refl _)
      rw [htk] at hN
      have HN := Lib.hid hN; clear hN hP htk
      go_wp2
      obtain ⟨wo, hwo⟩ : ∃ wo : World, wo = wr := ⟨_, rfl⟩
      go_loopw [9, 29] (fun uv iv wr => ∃ k : Nat, k ≤ m ∧ iv = .int .i64 k ∧ OwnV wr w.heap.size uv ((ks.take k).map (lookAt ws)) ∧ (∀ a ∈ ks.take k, 0 ≤ a ∧ a < (n : Int)) ∧ Below w.heap.size w wr) (fun _ iv _ => m - (intOf iv).toNat)
      case atStart => exact ⟨0, Nat.zero_le _, rfl, OwnV.nil _ _, by simp, hb⟩
      case round =>
        clear hb hwo
        obtain ⟨k, hk, rfl, hO, hA, hb⟩ := hrel
        have hszr := hb.size
        have hml : ((ks.take k).map (lookAt ws)).length = k := by rw [List.length_map, List.length_take, HF.out.2.2]; omega
        obtain ⟨A9, c9, rfl, _, _⟩ := hO.form' (n := k) hml
        by_cases hkm : k < m
        · obtain ⟨b2, o2, a, ha1, rfl, hb2, a0⟩ := (hx.below hb).at_ hkm
          have hts : (ks.take (k + 1)).map (lookAt ws) = (ks.take k).map (lookAt ws) ++ [lookAt ws a] := by rw [take_int ha1, List.map_append]; rfl
          have hta := take_int ha1
          have hmem : a ∈ ks := List.mem_of_getElem? ha1
          have hout := fun h => look_out (ws := ws) hmem h
          rw [HF.out.2.1] at hout
          have HTS := Lib.hid (And.intro hts hta); clear hts hta ha1 hmem
          generalize (ks.take k).map (lookAt ws) = O at *
          have hfl : O.length < few := by rw [hml]; unfold few; omega
          have HFL := Lib.hid (And.intro hfl hml); clear hfl hml
          have HO := Lib.hid hO; clear hO
          have HA := Lib.hid hA; clear hA
          by_cases ha : a < 0
          · have HB := Lib.hid (hout (by omega))
            have hd1 : decide (a < 0) = true := decide_eq_true ha
            clear hout
            go_wp2
            go_ret2
            exact ⟨_, ret_vi HB.out.2.symm, by rw [HB.out.1]; exact OwnV.nil _ _, hb⟩
          · obtain ⟨p, rfl⟩ : ∃ p : Nat, a = p := ⟨a.toNat, by omega⟩
            have hd1 : decide ((p : Int) < 0) = false := decide_eq_false ha
            by_cases hpn : p < n
            · have hd2 : decide ((n : Int) ≤ (p : Int)) = false := decide_eq_false (by omega)
              obtain ⟨b1, o1, v, hv1, rfl, hb1, c0, c1, c2, c3⟩ := (hv.below hb).at_ hpn
              have hlv : lookAt ws (p : Int) = clean v := by unfold lookAt; rw [Int.toNat_natCast, List.getD_eq_getElem?_getD, hv1]; rfl
              have hp := plain_any v
              rw [hlv] at HTS
              generalize clean v = u at *
              clear hv1 hlv hout
              obtain ⟨kv, iv, bv, sv⟩ := v
              obtain ⟨ku, iu, bu, su⟩ := u
              simp only [vagg] at c0 c1 c2 c3 hp
              have HPL := Lib.hid hp; clear hp
              go_wp2_with (first
                | (go_at_call 71; (with_reducible refine (HPL.out _).mono ?_); rintro e w1 ⟨rfl, hb2⟩; have HO1 := Lib.hid (HO.out.below hb2); have HBT1 := Lib.hid (bthen hb hb2 (Nat.le_refl _)); clear hb2)
                | (at_builtin; (refine wpList_push_val rfl (.tmp 41) (.tmp 47) rfl w.heap.size (.slice A9 k c9) O ⟨ku, iu, bu, su⟩ w1.heap.size 1 rfl rfl (t := 71) (fr := (0, 0)) (heap_alloc_new w1 (.cells #[.int .i64 ku, .int .i64 iu, .bool bu, .string su] 71)) (HO1.out.alloc (.cells #[.int .i64 ku, .int .i64 iu, .bool bu, .string su] 71)) HFL.out.1 (Below.size (HBT1.out.alloc HBT1.out.size (.cells #[.int .i64 ku, .int .i64 iu, .bool bu, .string su] 71))) ?_; intro u2 wB hI2 hgB hatB); (have hbB := (HBT1.out.alloc HBT1.out.size (.cells #[.int .i64 ku, .int .i64 iu, .bool bu, .string su] 71)).grown hgB (Below.size (HBT1.out.alloc HBT1.out.size (.cells #[.int .i64 ku, .int .i64 iu, .bool bu, .string su] 71))) (own_base HO1.out)); have HR := Lib.hid (And.intro hI2 hbB); clear hI2 hgB hatB hbB))
              go_roundw
              case rel => exact ⟨k + 1, by omega, by go_num, by rw [HTS.out.1]; exact HR.out.1, by rw [HTS.out.2]; intro a ha; rw [List.mem_append] at ha; rcases ha with ha | ha; exact HA.out a ha; (simp at ha; subst ha; omega), HR.out.2⟩
              case measure => simp [intOf]; omega
            · have HB := Lib.hid (hout (by omega))
              have hd2 : decide ((n : Int) ≤ (p : Int)) = true := decide_eq_true (by omega)
              clear hout
              go_wp2
              go_ret2
              exact ⟨_, ret_vi HB.out.2.symm, by rw [HB.out.1]; exact OwnV.nil _ _, hb⟩
        · obtain rfl : m = k := by omega
          have htk : ks.take m = ks := List.take_of_length_le (by rw [HF.out.2.2]; exact Nat.le_refl _)
          rw [htk] at hO hA
          have HB := Lib.hid (look_all HN.out (by rw [HF.out.2.1]; exact hA))
          have HO := Lib.hid hO; clear hO hA hml
          go_wp2
          go_ret2
          exact ⟨_, ret_vi HB.out.2.symm, by rw [HB.out.1]; exact HO.out, hb⟩
end Go.Proofs.YtgmemdedpklnhaaGreat.Words

/-
  THE WALK of the document's own Build.
-/



namespace Go.Proofs.YtgmemdedpklnhaaGreat.Words
open Go.RowKit ValMath Vals Sl MapV

set_option maxRecDepth 20000 in
set_option maxHeartbeats 8000000 in
theorem buildR_any (A : Option Addr) (n c : Nat) (vs : List Val) (w : World) (hv : VSl w A n vs) (hn : n * 40 ≤ 140737488355280) (hf : ∀ v ∈ vs, v.s.size ≤ maxLen) :
    Calls Tryz.prog 98 #[.slice A n c] w fun e w' => ∃ u1 u2, e = .returned (.tuple #[u1, u2]) ∧ OwnV w' w.heap.size u1 (build vs).1 ∧ OwnI w' w.heap.size u2 (iat (build vs).2) ∧ Below w.heap.size w w' := by
  have hlen := hv.1
  have HF := Lib.hid (And.intro hf hlen); clear hf hlen
  go_enter Tryz.func98, Tryz.ntmps98
  go_wp2
  go_loopw [4, 5, 6] (fun pv qv iv wr => ∃ k : Nat, k ≤ n ∧ iv = .int .i64 k ∧ OwnV wr w.heap.size pv (build (vs.take k)).1 ∧ OwnI wr w.heap.size qv (iat (build (vs.take k)).2) ∧ Below w.heap.size w wr) (fun _ _ iv _ => n - (intOf iv).toNat)
  case atStart => exact ⟨0, Nat.zero_le _, rfl, OwnV.nil _ _, OwnI.nil _ _, Below.refl _ _⟩
  case round =>
    obtain ⟨k, hk, rfl, hV, hI, hb⟩ := hrel
    have hw1 := build_ws_length (vs.take k)
    have hw2 := build_at_length (vs.take k)
    have hlk : (vs.take k).length ≤ k := List.length_take_le _ _
    by_cases hkn : k < n
    · obtain ⟨b1, o1, v, hv1, rfl, hb1, c0, c1, c2, c3⟩ := hv.at_ hkn
      have hts : build (vs.take (k + 1)) = addW (build (vs.take k)) v := by rw [take_more hv1, build_snoc]
      have hvs := HF.out.1 v (List.mem_of_getElem? hv1)
      have hk1 := add_known (s := build (vs.take k)) (v := v)
      have hk2 := add_new (s := build (vs.take k)) (v := v)
      rw [← hts] at hk1 hk2
      have hcl := build_ws_clean (vs.take k)
      have hms : ∀ u ∈ (build (vs.take k)).1, u.s.size ≤ maxLen := fun u hu => by
        obtain ⟨x, hx, e⟩ := (build_ws_mem (vs.take k) u).1 hu
        rw [← e]
        exact Nat.le_trans (clean_size x) (HF.out.1 x (List.mem_of_mem_take hx))
      obtain ⟨A4, c4, rfl, _, _⟩ := hV.form' (n := (build (vs.take k)).1.length) rfl
      have hp := clean_any v
      generalize build (vs.take k) = S at *
      obtain ⟨W, P⟩ := S
      simp only [] at hV hI hw1 hw2 hk1 hk2 hcl hms
      have hcm := fun x => cmp_any x v
      have hcz := fun x => cmp_zero x v
      generalize clean v = u at *
      have hflV : W.length < few := by unfold few; omega
      have hflI : (iat P).length < few := by rw [iat_length]; unfold few; omega
      have HV := Lib.hid hV; clear hV
      have HI := Lib.hid hI; clear hI
      have HFL := Lib.hid (And.intro hflV hflI); clear hflV hflI
      have HK := Lib.hid (And.intro hk1 hk2); clear hk1 hk2 hts hv1
      have HC := Lib.hid (And.intro hcl (And.intro hms (And.intro hvs (And.intro hcm hcz)))); clear hcl hms hvs hcm hcz
      have HVS := Lib.hid hv; clear hv
      obtain ⟨kv, iv, bv, sv⟩ := v
      have hv4 : At4 w b1 (o1 + k * 4) ⟨kv, iv, bv, sv⟩ := ⟨c0, c1, c2, c3⟩
      have HV4 := Lib.hid hv4; clear hv4 c0 c1 c2 c3
      obtain ⟨ku, iu, bu, su⟩ := u
      have HP := Lib.hid hp; clear hp
      have hpn := place_le W ⟨ku, iu, bu, su⟩
      obtain ⟨pk, hpk⟩ : ∃ pk, pk = place W ⟨ku, iu, bu, su⟩ := ⟨_, rfl⟩
      rw [← hpk] at hpn
      have HPK := Lib.hid hpk; clear hpk
      go_wp2
      obtain ⟨wo, hwo⟩ : ∃ wo : World, wo = wr := ⟨_, rfl⟩
      go_loopw [7] (fun jv wi => ∃ q : Nat, q ≤ pk ∧ jv = .int .i64 q ∧ OwnV wi w.heap.size (.slice A4 W.length c4) W ∧ OwnI wi w.heap.size u5 (iat P) ∧ Below w.heap.size w wi) (fun jv _ => W.length - (intOf jv).toNat)
      case atStart => exact ⟨0, Nat.zero_le _, rfl, HV.out, HI.out, hb⟩
      case round =>
        clear HV HI hb hwo
        obtain ⟨q, hq, rfl, hV, hI, hb⟩ := hrel
        have HI := Lib.hid hI; clear hI
        have hszr := hb.size
        by_cases hql : q < W.length
        · have hd1 : decide ((q : Int) < (W.length : Int)) = true := decide_eq_true (by omega)
          obtain ⟨b2, o2, x, hx1, rfl, hb2, d0, d1, d2, d3⟩ := (hV.sl rfl).at_ hql
          have hxm : x ∈ W := List.mem_of_getElem? hx1
          have hxc := HC.out.1 x hxm
          have hcm := fun w => HC.out.2.2.2.1 x w (HC.out.2.1 x hxm) HC.out.2.2.1
          have hcz := HC.out.2.2.2.2 x
          rw [hxc] at hcz
          have hx4 : At4 wr b2 (o2 + q * 4) x := ⟨d0, d1, d2, d3⟩
          have hv4 : At4 wr b1 (o1 + k * 4) ⟨kv, iv, bv, sv⟩ := At4.below HV4.out hb hb1
          have hb1' : b1 < wr.heap.size := by omega
          have HX4 := Lib.hid (And.intro hx4 hv4); clear hx4 hv4
          have HV := Lib.hid hV; clear hV
          have hg1 : (0 : Int) ≤ (q : Int) := by omega
          have hg2 : (q : Int) < (W.length : Int) := by omega
          have hg3 : (0 : Int) ≤ (k : Int) := by omega
          have hg4 : (k : Int) < (n : Int) := by omega
          by_cases hqp : q < pk
          · have hne : x ≠ ⟨ku, iu, bu, su⟩ := by
              obtain ⟨y, hy, hy2⟩ := place_first (ws := W) (v := ⟨ku, iu, bu, su⟩) (i := q) (by rw [← HPK.out]; exact hqp)
              rw [hx1] at hy; injection hy with hy; subst hy; exact hy2
            have hC : cmp x ⟨kv, iv, bv, sv⟩ ≠ 0 := fun e => hne (hcz.1 e)
            generalize cmp x ⟨kv, iv, bv, sv⟩ = r at hC hcm
            have hC1 : (r == 0) = false := by simpa using hC
            clear hne hcz hC hx1 hxm hxc
            obtain ⟨kx, ix, bx, sx⟩ := x
            simp only [] at d0 d1 d2 d3 hcm
            have HK2 := Lib.hid hcm; clear hcm
            obtain ⟨e0, e1, e2, e3⟩ := HX4.out.2
            simp only [] at e0 e1 e2 e3
            go_wp2
            go_region_held3 (fun w' => (w'.cell? ⟨b2, o2 + q * 4, none⟩ = some (.int .i64 kx) ∧ w'.cell? ⟨b2, o2 + q * 4 + 1, none⟩ = some (.int .i64 ix) ∧ w'.cell? ⟨b2, o2 + q * 4 + 2, none⟩ = some (.bool bx) ∧ w'.cell? ⟨b2, o2 + q * 4 + 3, none⟩ = some (.string sx)) ∧
                (w'.cell? ⟨b1, o1 + k * 4, none⟩ = some (.int .i64 kv) ∧ w'.cell? ⟨b1, o1 + k * 4 + 1, none⟩ = some (.int .i64 iv) ∧ w'.cell? ⟨b1, o1 + k * 4 + 2, none⟩ = some (.bool bv) ∧ w'.cell? ⟨b1, o1 + k * 4 + 3, none⟩ = some (.string sv)))
              (first | go_keep | exact ⟨HX4.out.1.drew.below hbK hb2, HX4.out.2.drew.below hbK hb1'⟩)
              ((first | (go_at_call 69; with_reducible refine (HK2.out _).mono ?_; rintro e w1 ⟨rfl, hbK⟩)))
            have HR := Lib.hid (And.intro (HV.out.drew.below hbK) (And.intro (HI.out.drew.below hbK) (bthen hb.drew hbK (Nat.le_refl _))))
            go_wp2
            go_roundw
            case rel => exact ⟨q + 1, by omega, by go_num, HR.out.1, HR.out.2.1, HR.out.2.2⟩
            case measure => simp [intOf]; omega
          · obtain rfl : q = pk := by omega
            have hxu : x = ⟨ku, iu, bu, su⟩ := by
              have h1 : place W ⟨ku, iu, bu, su⟩ < W.length := by rw [← HPK.out]; exact hql
              have h2 := place_at h1
              have h3 : W[place W ⟨ku, iu, bu, su⟩]? = some x := by rw [← HPK.out]; exact hx1
              rw [List.getElem?_eq_getElem h1, h2] at h3
              injection h3 with h3; exact h3.symm
            have hC : cmp x ⟨kv, iv, bv, sv⟩ = 0 := hcz.2 hxu
            rw [hC] at hcm
            have hE := HK.out.1 (by rw [← hxu]; exact hxm)
            rw [← HPK.out] at hE
            have HE := Lib.hid hE; clear hE
            clear hcz hC hx1 hxm hxc hxu
            obtain ⟨kx, ix, bx, sx⟩ := x
            simp only [] at d0 d1 d2 d3 hcm
            have HK2 := Lib.hid hcm; clear hcm
            obtain ⟨e0, e1, e2, e3⟩ := HX4.out.2
            simp only [] at e0 e1 e2 e3
            go_wp2
            go_region_held3 (fun w' => (w'.cell? ⟨b2, o2 + q * 4, none⟩ = some (.int .i64 kx) ∧ w'.cell? ⟨b2, o2 + q * 4 + 1, none⟩ = some (.int .i64 ix) ∧ w'.cell? ⟨b2, o2 + q * 4 + 2, none⟩ = some (.bool bx) ∧ w'.cell? ⟨b2, o2 + q * 4 + 3, none⟩ = some (.string sx)) ∧
                (w'.cell? ⟨b1, o1 + k * 4, none⟩ = some (.int .i64 kv) ∧ w'.cell? ⟨b1, o1 + k * 4 + 1, none⟩ = some (.int .i64 iv) ∧ w'.cell? ⟨b1, o1 + k * 4 + 2, none⟩ = some (.bool bv) ∧ w'.cell? ⟨b1, o1 + k * 4 + 3, none⟩ = some (.string sv)))
              (first | go_keep | exact ⟨HX4.out.1.drew.below hbK hb2, HX4.out.2.drew.below hbK hb1'⟩)
              ((first | (go_at_call 69; with_reducible refine (HK2.out _).mono ?_; rintro e w1 ⟨rfl, hbK⟩)))
            have HV1 := Lib.hid (HV.out.drew.below hbK); clear HV
            have HI1 := Lib.hid (HI.out.drew.below hbK); clear HI
            have HB1 := Lib.hid (bthen hb.drew hbK (Nat.le_refl _)); clear hbK
            clear d0 d1 d2 d3 e0 e1 e2 e3 HX4 hb1' hb2 hb
            have hne : ((q : Int) == (W.length : Int)) = false := by simp; omega
            have hsz1 := HB1.out.size
            go_wp2_with (first
              |
              (at_builtin; (refine wpList_push_int (t := 3) (fr := (0, 0)) rfl (.tmp 44) (.tmp 46) rfl w.heap.size u5 (iat P) (q : Int) w1.heap.size 1 rfl rfl (heap_alloc_new w1 (.cells #[.int .i64 (q : Int)] 3)) (HI1.out.alloc (.cells #[.int .i64 (q : Int)] 3)) HFL.out.2 (Below.size (HB1.out.alloc HB1.out.size (.cells #[.int .i64 (q : Int)] 3))) ?_; intro u2 wB hI2 hgB hatB); (have hV2 := (HV1.out.alloc (.cells #[.int .i64 (q : Int)] 3)).keepI (HI1.out.alloc (.cells #[.int .i64 (q : Int)] 3)) hgB); (have hbB := (HB1.out.alloc HB1.out.size (.cells #[.int .i64 (q : Int)] 3)).grown hgB (Below.size (HB1.out.alloc HB1.out.size (.cells #[.int .i64 (q : Int)] 3))) (own_base HI1.out)); (have HR := Lib.hid (And.intro hI2 (And.intro hV2 hbB))); (clear hI2 hV2 hbB hgB hatB))
              )
            go_roundw
            case rel => exact ⟨k + 1, by omega, by go_num, by rw [HE.out]; exact HR.out.2.1, by rw [HE.out, iat_snoc]; exact HR.out.1, HR.out.2.2⟩
            case measure => simp [intOf]; omega
        · obtain rfl : q = W.length := by omega
          obtain rfl : pk = W.length := by omega
          have hd1 : decide ((W.length : Int) < (W.length : Int)) = false := decide_eq_false (by omega)
          have hmem : (⟨ku, iu, bu, su⟩ : Val) ∉ W := fun h => by
            have h1 := place_lt.2 h
            rw [← HPK.out] at h1; omega
          have HE := Lib.hid (HK.out.2 hmem); clear hmem
          have hv4 : At4 wr b1 (o1 + k * 4) ⟨kv, iv, bv, sv⟩ := At4.below HV4.out hb hb1
          have HX4 := Lib.hid hv4; clear hv4
          have HV := Lib.hid hV; clear hV
          go_wp2
          go_quiet (fail)
          have HV1 := Lib.hid (HV.out.drewN nq); clear HV
          have HI1 := Lib.hid (HI.out.drewN nq); clear HI
          have HB1 := Lib.hid (below_drewN hb nq); clear hb
          obtain ⟨e0, e1, e2, e3⟩ := HX4.out.drewN nq
          simp only [] at e0 e1 e2 e3
          clear HX4
          generalize wr.drewN nq = w1 at *
          have hsz1 := HB1.out.size
          go_wp2_with (first
            | (go_at_call 66; (with_reducible refine (HP.out _).mono ?_); rintro e w2 ⟨rfl, hb2⟩; have HV2 := Lib.hid (HV1.out.below hb2); have HI2 := Lib.hid (HI1.out.below hb2); have HB2 := Lib.hid (bthen HB1.out hb2 (Nat.le_refl _)); clear hb2)
            | (at_builtin; (refine wpList_push_val rfl (.tmp 36) (.tmp 42) rfl w.heap.size (.slice A4 W.length c4) W ⟨ku, iu, bu, su⟩ w2.heap.size 1 rfl rfl (t := 71) (fr := (0, 0)) (heap_alloc_new w2 (.cells #[.int .i64 ku, .int .i64 iu, .bool bu, .string su] 71)) (HV2.out.alloc (.cells #[.int .i64 ku, .int .i64 iu, .bool bu, .string su] 71)) HFL.out.1 (Below.size (HB2.out.alloc HB2.out.size (.cells #[.int .i64 ku, .int .i64 iu, .bool bu, .string su] 71))) ?_; intro u1 wV hV2 hgV hatV); have HI3 := Lib.hid ((HI2.out.alloc (.cells #[.int .i64 ku, .int .i64 iu, .bool bu, .string su] 71)).keepV (HV2.out.alloc (.cells #[.int .i64 ku, .int .i64 iu, .bool bu, .string su] 71)) hgV); have HB3 := Lib.hid ((HB2.out.alloc HB2.out.size (.cells #[.int .i64 ku, .int .i64 iu, .bool bu, .string su] 71)).grown hgV (Below.size (HB2.out.alloc HB2.out.size (.cells #[.int .i64 ku, .int .i64 iu, .bool bu, .string su] 71))) (own_base HV2.out)); have HV3 := Lib.hid hV2; have hszV := HB3.out.size; clear hV2 hgV hatV)
            |
            (at_builtin; (refine wpList_push_int (t := 3) (fr := (0, 0)) rfl (.tmp 44) (.tmp 46) rfl w.heap.size u5 (iat P) (W.length : Int) wV.heap.size 1 rfl rfl (heap_alloc_new wV (.cells #[.int .i64 (W.length : Int)] 3)) (HI3.out.alloc (.cells #[.int .i64 (W.length : Int)] 3)) HFL.out.2 (Below.size (HB3.out.alloc HB3.out.size (.cells #[.int .i64 (W.length : Int)] 3))) ?_; intro u2 wB hI2 hgB hatB); (have hV2 := (HV3.out.alloc (.cells #[.int .i64 (W.length : Int)] 3)).keepI (HI3.out.alloc (.cells #[.int .i64 (W.length : Int)] 3)) hgB); (have hbB := (HB3.out.alloc HB3.out.size (.cells #[.int .i64 (W.length : Int)] 3)).grown hgB (Below.size (HB3.out.alloc HB3.out.size (.cells #[.int .i64 (W.length : Int)] 3))) (own_base HI3.out)); (have HR := Lib.hid (And.intro hI2 (And.intro hV2 hbB))); (clear hI2 hV2 hbB hgB hatB))
            )
          go_roundw
          case rel => exact ⟨k + 1, by omega, by go_num, by rw [HE.out]; exact HR.out.2.1, by rw [HE.out, iat_snoc]; exact HR.out.1, HR.out.2.2⟩
          case measure => simp [intOf]; omega
    · obtain rfl : n = k := by omega
      have htk : vs.take n = vs := List.take_of_length_le (by rw [HF.out.2]; exact Nat.le_refl _)
      rw [htk] at hV hI
      have HV := Lib.hid hV; clear hV
      have HI := Lib.hid hI; clear hI
      go_wp2
      go_ret2
      exact ⟨_, _, rfl, HV.out, HI.out, hb⟩
end Go.Proofs.YtgmemdedpklnhaaGreat.Words

/-
  THE WALKS of CopyValues, LendValues.
-/

namespace Go.Proofs.YtgmemdedpklnhaaGreat.Mem
open Go.RowKit ValMath Vals Sl

def mark : Val := ⟨77777, 0, false, ByteArray.empty⟩

theorem made0 (w : World) (e : TypeId) (size : Nat) : (w.alloc (.cells #[] e)).ownsRow w.heap.size e size (.slice (some ⟨w.heap.size, 0, none⟩) 0 0) 0 [] :=
  World.ownsRow_made w #[] 0 (Nat.le_refl _) (by unfold maxLen; omega) (by simp)

set_option maxHeartbeats 1000000 in
theorem copyValues_any (A : Option Addr) (n c : Nat) (vs : List Val) (w : World) (hv : VArg w A n c vs) :
    Calls Tryz.prog 81 #[.slice A n c] w fun e w' => ∃ g k, e = .returned (.slice (some ⟨g, 0, none⟩) n k) ∧ OwnV w' w.heap.size (.slice (some ⟨g, 0, none⟩) n k) vs ∧ Below w.heap.size w w' := by
  have hown : OwnV (w.alloc (.cells #[] 71)) w.heap.size (.slice (some ⟨w.heap.size, 0, none⟩) 0 0) [] := made0 w 71 4
  have hs := hv.sl.below (Vals.one_new (w := w) (.cells #[] 71))
  have hlen := hv.sl.1
  have h1 := hv.le
  have h2 := hv.cap
  have HO := Lib.hid hown; clear hown
  have HS := Lib.hid hs; clear hs
  have HL := Lib.hid hlen; clear hlen
  have HN := Lib.hid hv.nil; clear hv
  go_enter Tryz.func81, Tryz.ntmps81
  go_wp2_with (refine wpList_pushes_val rfl _ _ rfl w.heap.size (.slice (some ⟨w.heap.size, 0, none⟩) 0 0) [] vs A n c rfl rfl HS.out HN.out HO.out (by rw [HL.out]; unfold few; simp; omega) (by simp) ?_; intro u wA hA hgA hatA hnA)
  have hA' : OwnV wA w.heap.size u vs := hA
  obtain ⟨A', c', rfl, hsl, hcm⟩ := hA'.form' HL.out
  cases A' with
  | none =>
    exfalso
    have := own_nil_cap hA'
    have h3 := hnA.1 (by rw [this.1, this.2])
    cases h3.1
  | some ad =>
    obtain ⟨g, k, e⟩ : ∃ g k, (Value.slice (some ad) n c') = .slice (some ⟨g, 0, none⟩) n k := by
      rcases hA'.2 with ⟨e, _⟩ | ⟨g, k, cur, e, _⟩
      · cases e
      · rw [HL.out] at e; exact ⟨g, k, e⟩
    rw [e] at hA' ⊢
    go_ret
    refine ⟨g, k, rfl, hA', ?_⟩
    exact (Vals.one_new _).grown hgA (by simp) (fun j hj => by simp only [Value.ownBlock, Option.some.injEq] at hj; omega)
/-- A list lent: n values at the head of a row of the call's own, two marked ones behind them. -/
structure LentV (w : World) (B g n c : Nat) (vs : List Val) : Prop where
  own : OwnV w B (.slice (some ⟨g, 0, none⟩) (n + 2) c) (vs ++ [mark, mark])
  len : vs.length = n
structure LentI (w : World) (B g n c : Nat) (xs : List Int) : Prop where
  own : OwnI w B (.slice (some ⟨g, 0, none⟩) (n + 2) c) (xs ++ [-7777, -8888])
  len : xs.length = n
theorem LentV.cap {w : World} {B g n c : Nat} {vs : List Val} (h : LentV w B g n c vs) : n + 2 ≤ c ∧ c ≤ maxLen := (own_len h.own).2
theorem LentI.cap {w : World} {B g n c : Nat} {vs : List Int} (h : LentI w B g n c vs) : n + 2 ≤ c ∧ c ≤ maxLen := (own_len h.own).2
theorem LentV.full {w : World} {B g n c : Nat} {vs : List Val} (h : LentV w B g n c vs) : VSl w (some ⟨g, 0, none⟩) (n + 2) (vs ++ [mark, mark]) := h.own.sl (by rw [List.length_append, h.len]; rfl)
theorem LentI.full {w : World} {B g n c : Nat} {vs : List Int} (h : LentI w B g n c vs) : ISl w (some ⟨g, 0, none⟩) (n + 2) (vs ++ [-7777, -8888]) := h.own.sl (by rw [List.length_append, h.len]; rfl)
theorem LentV.sl {w : World} {B g n c : Nat} {vs : List Val} (h : LentV w B g n c vs) : VSl w (some ⟨g, 0, none⟩) n vs := by
  have := h.full.take (m := n) (by omega)
  rwa [List.take_append_of_le_length (by rw [h.len]; exact Nat.le_refl _), List.take_of_length_le (by rw [h.len]; exact Nat.le_refl _)] at this
theorem LentI.sl {w : World} {B g n c : Nat} {vs : List Int} (h : LentI w B g n c vs) : ISl w (some ⟨g, 0, none⟩) n vs := by
  have := h.full.take (m := n) (by omega)
  rwa [List.take_append_of_le_length (by rw [h.len]; exact Nat.le_refl _), List.take_of_length_le (by rw [h.len]; exact Nat.le_refl _)] at this
theorem LentV.below {w w' : World} {B g n c : Nat} {vs : List Val} (h : LentV w B g n c vs) (hb : Below w.heap.size w w') : LentV w' B g n c vs := ⟨h.own.below hb, h.len⟩
theorem LentI.below {w w' : World} {B g n c : Nat} {vs : List Int} (h : LentI w B g n c vs) (hb : Below w.heap.size w w') : LentI w' B g n c vs := ⟨h.own.below hb, h.len⟩
theorem LentV.grown {w w' : World} {B g n c : Nat} {vs : List Val} {row : Option Nat} (h : LentV w B g n c vs) (hg : w.grownBy w' row) (hr : some g ≠ row) : LentV w' B g n c vs := ⟨World.ownsRow.kept h.own hg (.inr hr), h.len⟩
theorem LentI.grown {w w' : World} {B g n c : Nat} {vs : List Int} {row : Option Nat} (h : LentI w B g n c vs) (hg : w.grownBy w' row) (hr : some g ≠ row) : LentI w' B g n c vs := ⟨World.ownsRow.kept h.own hg (.inr hr), h.len⟩
theorem LentV.base {w : World} {B g n c : Nat} {vs : List Val} (h : LentV w B g n c vs) : B ≤ g ∧ g < w.heap.size := own_base_of h.own
theorem LentI.base {w : World} {B g n c : Nat} {vs : List Int} (h : LentI w B g n c vs) : B ≤ g ∧ g < w.heap.size := own_base_of h.own

set_option maxHeartbeats 1000000 in
theorem lendValues_any (A : Option Addr) (n c : Nat) (vs : List Val) (w : World) (hv : VArg w A n c vs) :
    Calls Tryz.prog 54 #[.slice A n c] w fun e w' => ∃ g k, e = .returned (.slice (some ⟨g, 0, none⟩) n k) ∧ LentV w' w.heap.size g n k vs ∧ Below w.heap.size w w' := by
  have HC := Lib.hid (copyValues_any A n c vs w hv)
  have hlen := hv.sl.1
  have h1 := hv.le
  have h2 := hv.cap
  have HL := Lib.hid hlen; clear hlen hv
  go_enter Tryz.func54, Tryz.ntmps54
  go_wp2_with (first
    | (go_at_call 81; with_reducible refine HC.out.mono ?_; rintro e w1 ⟨g1, k1, rfl, hO1, hb1⟩; have HO1 := Lib.hid hO1; clear hO1)
    | (refine wpList_pushes_val rfl _ _ rfl w.heap.size (.slice (some ⟨g1, 0, none⟩) n k1) vs [mark, mark] _ 2 2 rfl rfl (VSl.new2 w1 mark mark _) (fun h => by cases h) (HO1.out.alloc _) (by rw [HL.out]; unfold few; simp; omega) (by have := hb1.size; simp; omega) ?_; intro u wA hA hgA hatA hnA; obtain ⟨g, k, rfl⟩ := own_lit hA (m := n + 2) (by simp [HL.out]) (fun e => by cases (hnA.1 e).2); have hcap := (own_len hA).2; have HA := Lib.hid hA; clear hA hatA hnA))
  go_ret
  refine ⟨g, k, rfl, ⟨HA.out, HL.out⟩, ?_⟩
  exact (hb1.alloc hb1.size _).grown hgA (by have := hb1.size; simp; omega) (fun j hj => by simp only [Value.ownBlock, Option.some.injEq] at hj; have := (own_base_of HO1.out).1; omega)
end Go.Proofs.YtgmemdedpklnhaaGreat.Mem

/-
  THE WALK of KeptValues.
-/

namespace Go.Proofs.YtgmemdedpklnhaaGreat.Mem
open Go.RowKit ValMath Vals Sl

theorem add_last {α : Type} {l : List α} {a b : α} {n : Nat} (h : l.length = n) : (l ++ [a, b])[n]? = some a ∧ (l ++ [a, b])[n + 1]? = some b := by
  subst h; constructor
  · rw [List.getElem?_append_right (by omega), Nat.sub_self]; rfl
  · rw [List.getElem?_append_right (by omega), Nat.add_sub_cancel_left]; rfl

set_option maxHeartbeats 1000000 in
theorem keptValues_any (A : Option Addr) (B g n c d : Nat) (vs : List Val) (w : World) (hL : LentV w B g n c vs) (hv : VSl w A n vs) :
    Calls Tryz.prog 39 #[.slice (some ⟨g, 0, none⟩) n c, .slice A n d] w fun e w' => e = .returned (.bool true) ∧ Below w.heap.size w w' := by
  have hcap := hL.cap
  unfold maxLen at hcap
  have hS := sameValues_any (some ⟨g, 0, none⟩) A n n c d vs vs w hL.sl hv (by unfold maxLen; omega)
  rw [decide_eq_true rfl] at hS
  obtain ⟨b0, o0, v0, e0, hA0, _, c0, c1, c2, c3⟩ := hL.full.at_ (k := n) (by omega)
  obtain ⟨b1, o1, v1, e1, hA1, _, d0, d1, d2, d3⟩ := hL.full.at_ (k := n + 1) (by omega)
  rw [(add_last hL.len).1] at e0
  rw [(add_last hL.len).2] at e1
  injection e0 with e0; injection e1 with e1
  subst e0; subst e1
  injection hA0 with hA0; injection hA0 with h1 h2; subst h1; subst h2
  injection hA1 with hA1; injection hA1 with h1 h2; subst h1; subst h2
  simp only [mark, Nat.zero_add] at c0 c1 c2 c3 d0 d1 d2 d3
  have HS := Lib.hid hS; clear hS hL hv
  have hq : ∀ W, (binOp .eql 71 (.agg #[.int .i64 77777, .int .i64 0, .bool false, .string ByteArray.empty]) (.agg #[.int .i64 77777, .int .i64 0, .bool false, .string ByteArray.empty])).run Tryz.prog W = .ok (.bool true) W := fun W => by
    have := eql_val mark mark W
    rw [decide_eq_true rfl] at this; exact this
  have hg := fun x y W => guard_val .eql x y #[.int .i64 77777, .int .i64 0, .bool false, .string ByteArray.empty] #[.int .i64 77777, .int .i64 0, .bool false, .string ByteArray.empty] W
  go_enter Tryz.func39, Tryz.ntmps39
  go_wp2_with (go_at_call 73; with_reducible refine HS.out.mono ?_; rintro e w1 ⟨rfl, q, rfl⟩)
  go_ret
  exact ⟨rfl, below_drewN (Below.refl _ _) _⟩

end Go.Proofs.YtgmemdedpklnhaaGreat.Mem

/-
  THE WALK of SpoilValues.
-/

namespace Go.Proofs.YtgmemdedpklnhaaGreat.Mem
open Go.RowKit ValMath Vals Sl

theorem own_put_int {w : World} {B g n c : Nat} {ys : List Int} (h : OwnI w B (.slice (some ⟨g, 0, none⟩) n c) ys) (hl : ys.length = n) (k : Nat) (z : Int) :
    OwnI (w.setCell ⟨g, k, none⟩ (.int .i64 z)) B (.slice (some ⟨g, 0, none⟩) n c) (ys.set k z) := by
  unfold OwnI at h ⊢
  rw [hl] at h
  rw [List.length_set, hl, show icells (ys.set k z) = (icells ys).set k (.int .i64 z) from by simp [icells, List.map_set]]
  exact (World.ownsRow.stored h k (.int .i64 z)).1
theorem grown_set (w : World) (g k : Nat) (v : Value) {n c : Nat} : w.grownBy (w.setCell ⟨g, k, none⟩ v) (Value.slice (some ⟨g, 0, none⟩) n c).ownBlock :=
  ⟨rfl, rfl, rfl, by simp, fun j _ hne => Below.heap_setCell _ _ _ _ (fun e => hne (by rw [e]; rfl))⟩

theorem vscells_set (vs : List Val) (k : Nat) (hk : k < vs.length) (x : Int) : vscells (vs.set k { vs[k] with i := x }) = (vscells vs).set (k * 4 + 1) (.int .i64 x) := by
  induction vs generalizing k with
  | nil => simp at hk
  | cons v vs ih =>
    cases k with
    | zero => simp [vscells, vcells]
    | succ k =>
      have := ih k (by simpa using hk)
      simp only [vscells, List.set_cons_succ, List.flatMap_cons, List.getElem_cons_succ] at this ⊢
      rw [this, List.set_append_right _ _ (by simp [vcells]; omega)]
      congr 2
      simp [vcells]; omega
theorem own_put_val {w : World} {B g n c : Nat} {vs : List Val} (h : OwnV w B (.slice (some ⟨g, 0, none⟩) n c) vs) (hl : vs.length = n) (k : Nat) (hk : k < vs.length) (x : Int) :
    OwnV (w.setCell ⟨g, k * 4 + 1, none⟩ (.int .i64 x)) B (.slice (some ⟨g, 0, none⟩) n c) (vs.set k { vs[k] with i := x }) := by
  unfold OwnV at h ⊢
  rw [hl] at h
  rw [List.length_set, hl, vscells_set vs k hk x]
  exact (World.ownsRow.stored h (k * 4 + 1) (.int .i64 x)).1

set_option maxHeartbeats 1000000 in
theorem spoilValues_any (A : Option Addr) (B n c : Nat) (vs : List Val) (w : World) (h : OwnV w B (.slice A n c) vs) (hl : vs.length = n) (hn : n ≤ maxLen) :
    Calls Tryz.prog 52 #[.slice A n c] w fun e w' => e = .returned (.tuple #[]) ∧ w.grownBy w' (Value.slice A n c).ownBlock := by
  unfold maxLen at hn
  go_enter Tryz.func52, Tryz.ntmps52
  go_wp2
  go_loopw [2] (fun i wr => ∃ k : Nat, k ≤ n ∧ i = .int .i64 k ∧ (∃ ys : List Val, ys.length = n ∧ OwnV wr B (.slice A n c) ys) ∧ w.grownBy wr (Value.slice A n c).ownBlock) (fun i _ => n - (intOf i).toNat)
  case atStart => exact ⟨0, Nat.zero_le _, rfl, ⟨vs, hl, h⟩, World.grownBy.refl _ _⟩
  case round =>
    obtain ⟨k, hk, rfl, ⟨ys, hyl, hO⟩, hg⟩ := hrel
    by_cases hlt : k < n
    · have hsl := hO.sl hyl
      obtain ⟨g, rfl, hfr⟩ : ∃ g, A = some ⟨g, 0, none⟩ ∧ ∀ j, wr.frozen? ⟨g, j, none⟩ = false := by
        rcases hO.2 with ⟨e, h0⟩ | ⟨g, cap, cur, e, _⟩
        · omega
        · injection e with e1 e2 e3
          subst e1; subst e3
          refine ⟨g, rfl, fun j => World.ownsRow.frozenAt (show World.ownsRow wr B 71 4 (.slice (some ⟨g, 0, none⟩) ys.length c) ys.length (vscells ys) by rw [hyl]; have := hO; unfold OwnV at this; rwa [hyl] at this) j⟩
      have hkl : k < ys.length := by omega
      obtain ⟨b, off, hA, _, hc⟩ := hsl.2 (by omega)
      injection hA with hA; injection hA with h1 h2; subst h1; subst h2
      obtain ⟨_, c1, _, _⟩ := hc k hkl
      have hf := hfr (k * 4 + 1)
      rw [Nat.zero_add] at c1
      have HP := fun x => own_put_val hO hyl k hkl x
      have HO := Lib.hid HP; clear HP hO h hc hfr hsl
      generalize ys[k].i = y at c1
      have HG := Lib.hid hg; clear hg
      go_wp2
      go_roundw
      case rel => exact ⟨k + 1, by omega, by go_num, ⟨_, by rw [List.length_set]; exact hyl, HO.out _⟩, HG.out.trans (grown_set wr g _ _)⟩
      case measure => simp [intOf]; omega
    · go_wp2
      go_end0
      exact ⟨rfl, hg⟩
end Go.Proofs.YtgmemdedpklnhaaGreat.Mem

/-
  same, copied, lent, kept, spoiled lists of values, together.
-/

/-
  THE WALK of boathouselaw0.Num.
-/





namespace Go.Proofs.YtgmemdedpklnhaaGreat.Nums
open Go.RowKit

theorem num_any (n : Int) (w : World) : Calls Tryz.prog 8 #[.int .i64 n] w fun e w' => e = .returned (.int .i64 n) ∧ w = w' := by
  go_enter Tryz.func8, Tryz.ntmps8
  go_wp2
  go_ret
  exact ⟨rfl, rfl⟩
end Go.Proofs.YtgmemdedpklnhaaGreat.Nums

/-
  BUILD AND LOOK AS THEIR CALLERS WANT THEM.
-/




namespace Go.Proofs.YtgmemdedpklnhaaGreat.Words
open Go.RowKit ValMath Vals Sl Mem

/-- Words and places as they were handed back. -/
structure GotW (w : World) (B : Nat) (A1 A2 : Option Addr) (m n c1 c2 : Nat) (s : List Val × List Nat) : Prop where
  own1 : OwnV w B (.slice A1 m c1) s.1
  own2 : OwnI w B (.slice A2 n c2) (iat s.2)
  len1 : s.1.length = m
  len2 : s.2.length = n
theorem GotW.below {w w' : World} {B m n c1 c2 : Nat} {A1 A2 : Option Addr} {s : List Val × List Nat} (h : GotW w B A1 A2 m n c1 c2 s) (hb : Below w.heap.size w w') : GotW w' B A1 A2 m n c1 c2 s := ⟨h.own1.below hb, h.own2.below hb, h.len1, h.len2⟩
theorem GotW.drewN {w : World} {B m n c1 c2 : Nat} {A1 A2 : Option Addr} {s : List Val × List Nat} (h : GotW w B A1 A2 m n c1 c2 s) (k : Nat) : GotW (w.drewN k) B A1 A2 m n c1 c2 s := ⟨h.own1.drewN k, h.own2.drewN k, h.len1, h.len2⟩
theorem GotW.sl1 {w : World} {B m n c1 c2 : Nat} {A1 A2 : Option Addr} {s : List Val × List Nat} (h : GotW w B A1 A2 m n c1 c2 s) : VSl w A1 m s.1 := h.own1.sl h.len1
theorem GotW.sl2 {w : World} {B m n c1 c2 : Nat} {A1 A2 : Option Addr} {s : List Val × List Nat} (h : GotW w B A1 A2 m n c1 c2 s) : ISl w A2 n (iat s.2) := h.own2.sl (by rw [iat_length, h.len2])
theorem GotW.grown {w w' : World} {B m n c1 c2 : Nat} {A1 A2 : Option Addr} {s : List Val × List Nat} {row : Option Nat} (h : GotW w B A1 A2 m n c1 c2 s) (hg : w.grownBy w' row) (hr : ∀ k, row = some k → k < B) : GotW w' B A1 A2 m n c1 c2 s := by
  have key : ∀ {z n : Nat} {e : TypeId} {v : Value} {xs : List Value}, w.ownsRow B e z v n xs → v.ownBlock = none ∨ v.ownBlock ≠ row := by
    intro z n e v xs ho
    cases hv : v.ownBlock with
    | none => exact .inl rfl
    | some k => exact .inr (fun e => by have := hr k e.symm; have := (World.ownsRow.lt ho k hv).1; omega)
  exact ⟨World.ownsRow.kept h.own1 hg (key h.own1), World.ownsRow.kept h.own2 hg (key h.own2), h.len1, h.len2⟩
theorem gotW_of {w : World} {B m n : Nat} {u1 u2 : Value} {s : List Val × List Nat} (h1 : OwnV w B u1 s.1) (h2 : OwnI w B u2 (iat s.2)) (hm : s.1.length = m) (hn : s.2.length = n) :
    ∃ A1 c1 A2 c2, u1 = .slice A1 m c1 ∧ u2 = .slice A2 n c2 ∧ GotW w B A1 A2 m n c1 c2 s := by
  obtain ⟨A1, c1, rfl, _⟩ := h1.form' hm
  obtain ⟨A2, c2, rfl, _⟩ := h2.form (n := n) (by rw [iat_length, hn])
  exact ⟨A1, c1, A2, c2, rfl, rfl, h1, h2, hm, hn⟩
theorem fine_len {vs : List Val} (h : ∀ v ∈ vs, Fine v) : ∀ v ∈ vs, v.s.size ≤ maxLen := fun v hv => Nat.le_trans (h v hv).s (by unfold maxLen; omega)
theorem build_got (A : Option Addr) (n c : Nat) (vs : List Val) (w : World) (hv : VSl w A n vs) (hn : n * 40 ≤ 140737488355280) (hf : ∀ v ∈ vs, Fine v) (m : Nat) (hm : (build vs).1.length = m) :
    Calls Tryz.prog 112 #[.slice A n c] w fun e w' => ∃ A1 c1 A2 c2, e = .returned (.tuple #[.slice A1 m c1, .slice A2 n c2]) ∧ GotW w' w.heap.size A1 A2 m n c1 c2 (build vs) ∧ Below w.heap.size w w' := by
  refine (build_any A n c vs w hv hn hf).mono ?_
  rintro e w' ⟨u1, u2, rfl, h1, h2, hb⟩
  obtain ⟨A1, c1, A2, c2, rfl, rfl, hg⟩ := gotW_of h1 h2 hm (by rw [build_at_length, hv.1])
  exact ⟨A1, c1, A2, c2, rfl, hg, hb⟩
theorem buildR_got (A : Option Addr) (n c : Nat) (vs : List Val) (w : World) (hv : VSl w A n vs) (hn : n * 40 ≤ 140737488355280) (hf : ∀ v ∈ vs, v.s.size ≤ maxLen) (m : Nat) (hm : (build vs).1.length = m) :
    Calls Tryz.prog 98 #[.slice A n c] w fun e w' => ∃ A1 c1 A2 c2, e = .returned (.tuple #[.slice A1 m c1, .slice A2 n c2]) ∧ GotW w' w.heap.size A1 A2 m n c1 c2 (build vs) ∧ Below w.heap.size w w' := by
  refine (buildR_any A n c vs w hv hn hf).mono ?_
  rintro e w' ⟨u1, u2, rfl, h1, h2, hb⟩
  obtain ⟨A1, c1, A2, c2, rfl, rfl, hg⟩ := gotW_of h1 h2 hm (by rw [build_at_length, hv.1])
  exact ⟨A1, c1, A2, c2, rfl, hg, hb⟩

/-- Values as they were handed back. -/
structure GotV (w : World) (B : Nat) (A : Option Addr) (m c : Nat) (vs : List Val) : Prop where
  own : OwnV w B (.slice A m c) vs
  len : vs.length = m
theorem GotV.below {w w' : World} {B m c : Nat} {A : Option Addr} {vs : List Val} (h : GotV w B A m c vs) (hb : Below w.heap.size w w') : GotV w' B A m c vs := ⟨h.own.below hb, h.len⟩
theorem GotV.drewN {w : World} {B m c : Nat} {A : Option Addr} {vs : List Val} (h : GotV w B A m c vs) (k : Nat) : GotV (w.drewN k) B A m c vs := ⟨h.own.drewN k, h.len⟩
theorem GotV.sl {w : World} {B m c : Nat} {A : Option Addr} {vs : List Val} (h : GotV w B A m c vs) : VSl w A m vs := h.own.sl h.len
theorem gotV_of {w : World} {B m : Nat} {u : Value} {vs : List Val} (h : OwnV w B u vs) (hm : vs.length = m) : ∃ A c, u = .slice A m c ∧ GotV w B A m c vs := by
  obtain ⟨A, c, rfl, _⟩ := h.form' hm
  exact ⟨A, c, rfl, h, hm⟩
theorem look_got (A C : Option Addr) (n m c d : Nat) (ws : List Val) (ks : List Int) (w : World) (hv : VSl w A n ws) (hx : ISl w C m ks) (hn : n * 40 ≤ 140737488355280) (hm : m * 40 ≤ 140737488355280) (hf : ∀ v ∈ ws, Fine v) (q : Nat) (hq : (lookVals ws ks).length = q) (cd : Int) (hcd : lookCode ws ks = cd) :
    Calls Tryz.prog 107 #[.slice A n c, .slice C m d] w fun e w' => ∃ A1 c1, e = .returned (.tuple #[.slice A1 q c1, .int .i64 cd]) ∧ GotV w' w.heap.size A1 q c1 (lookVals ws ks) ∧ Below w.heap.size w w' := by
  refine (look_any A C n c m d ws ks w hv hx hn hm hf).mono ?_
  rintro e w' ⟨u, rfl, h1, hb⟩
  obtain ⟨A1, c1, rfl, hg⟩ := gotV_of h1 hq
  exact ⟨A1, c1, by rw [hcd], hg, hb⟩
end Go.Proofs.YtgmemdedpklnhaaGreat.Words

/-
  THE WALKS of bitpack.Unpack, Width, boathouseref1.Width.
-/



namespace Go.Proofs.YtgmemdedpklnhaaGreat.Bitpack
open Go.RowKit BitMath Sl

theorem len_bitLen (x : Nat) : ∀ n, n ≤ 64 → x < 2 ^ n → len n x = Lib.bitLen x := by
  intro n
  induction n generalizing x with
  | zero => intro _ h; simp at h; subst h; rfl
  | succ n ih =>
    intro hn h
    have hp : 2 ^ (n + 1) ≤ 2 ^ 64 := Nat.pow_le_pow_right (by omega) hn
    by_cases h0 : x = 0
    · subst h0; rfl
    · rw [len_succ h0, ih _ (by omega) (by rw [Nat.pow_succ] at h; omega), Lib.bitLen_half x h0 (by omega)]; omega

set_option maxRecDepth 100000 in
theorem width_any (x : Int) (w : World) (h1 : x < 9223372036854775808) : Calls Tryz.prog 106 #[.int .i64 x] w fun e w' => e = .returned (.int .i64 (width x : Nat)) ∧ w = w' := by
  have H : ∀ (z : Int) w, 0 ≤ z → z = (x.toNat : Nat) → Calls Tryz.prog 117 #[.int .u64 z] w fun e w' => e = .returned (.int .i64 (width x : Nat)) ∧ w' = w := fun z w h0 hz => by
    have := Shelf.bits_Len z w h0 (by omega)
    rw [hz, Int.toNat_natCast, ← len_bitLen x.toNat 64 (by omega) (by omega)] at this
    rw [hz]; exact this
  generalize (width x : Nat) = r at *
  have HH := Lib.hid H; clear H
  by_cases h0 : 0 ≤ x
  · have hw : IntKind.u64.wrap x = x := by rw [IntKind.wrap_u64]; omega
    have hx : x = (x.toNat : Nat) := by omega
    have HX := Lib.hid hx; clear hx
    go_enter Tryz.func106, Tryz.ntmps106
    go_wp2_with (go_at_call 117; refine (HH.out _ _ (by omega) (by first | exact HX.out | omega)).mono ?_; rintro e w' ⟨rfl, rfl⟩)
    go_ret
    exact ⟨rfl, rfl⟩
  · have hx : (0 : Int) = (x.toNat : Nat) := by omega
    have HX := Lib.hid hx; clear hx
    go_enter Tryz.func106, Tryz.ntmps106
    go_wp2_with (go_at_call 117; refine (HH.out _ _ (by omega) (by first | exact HX.out | omega)).mono ?_; rintro e w' ⟨rfl, rfl⟩)
    go_ret
    exact ⟨rfl, rfl⟩

set_option maxRecDepth 100000 in
set_option maxHeartbeats 1000000 in
theorem refWidth_any (x : Int) (w : World) (h1 : x < 9223372036854775808) : Calls Tryz.prog 99 #[.int .i64 x] w fun e w' => e = .returned (.int .i64 (width x : Nat)) ∧ w = w' := by
  obtain ⟨R, hR⟩ : ∃ R, R = width x := ⟨_, rfl⟩
  rw [← hR]
  have HR := Lib.hid hR; clear hR
  go_enter Tryz.func99, Tryz.ntmps99
  go_wp2
  go_loop [0, 3] (fun mv kv => ∃ (n k : Nat) (m : Int), mv = .int .i64 m ∧ kv = .int .i64 k ∧ k + n = 64 ∧ m < 9223372036854775808 ∧ m.toNat < 2 ^ n ∧ Hid (R = k + len n m.toNat)) (fun mv _ => (intOf mv).toNat)
  case atStart => exact ⟨64, 0, x, rfl, rfl, by omega, h1, by omega, Lib.hid (by rw [HR.out]; unfold width; omega)⟩
  case round =>
    obtain ⟨n, k, m, rfl, rfl, hk, hm, hp, hr⟩ := hrel
    by_cases h0 : 0 < m
    · have hn : n ≠ 0 := by rintro rfl; simp at hp; omega
      obtain ⟨n', rfl⟩ : ∃ n', n = n' + 1 := ⟨n - 1, by omega⟩
      have hl := len_succ (n := n') (x := m.toNat) (by omega)
      have hh : (m / 2).toNat = m.toNat / 2 := by omega
      have hp2 : (m / 2).toNat < 2 ^ n' := by rw [hh]; rw [Nat.pow_succ] at hp; omega
      have HL := Lib.hid (And.intro hl (And.intro hh hp2)); clear hl hh hp2 hp
      go_wp2
      go_round
      case rel => exact ⟨n', k + 1, m / 2, by go_num, by go_num, by omega, by omega, HL.out.2.2, Lib.hid (by rw [HL.out.2.1, hr.out, HL.out.1]; omega)⟩
      case measure => simp [intOf]; omega
    · have hz : R = k := by
        have := hr.out
        rw [show m.toNat = 0 by omega, len_zero] at this; omega
      subst hz
      clear hp
      go_wp2
      go_ret
      exact ⟨rfl, rfl⟩
end Go.Proofs.YtgmemdedpklnhaaGreat.Bitpack

/-
  THE WALKS of package vec's three encodings: plain, repeated, placed.
-/






namespace Go.Proofs.YtgmemdedpklnhaaGreat.Vec
open Go.RowKit ValMath Vals Sl VecMath Bld Words

theorem scalar_length (v : Val) (h : v.s.size ≤ 64) : (scalar v).length ≤ 74 := by
  unfold scalar
  split
  · have := VarMath.enc_length_le (VarMath.zig v.i); omega
  · split
    · simp
    · have h1 := cnt_size v.s.size
      have h2 : v.s.data.toList.length = v.s.size := by simp
      rw [List.length_append]; omega
theorem flat_length (vs : List Val) (h : ∀ v ∈ vs, v.s.size ≤ 64) : (vs.flatMap scalar).length ≤ vs.length * 74 := by
  induction vs with
  | nil => simp
  | cons v vs ih =>
    have h1 := scalar_length v (h v (by simp))
    have h2 := ih (fun u hu => h u (by simp [hu]))
    rw [List.flatMap_cons, List.length_append, List.length_cons]; omega
theorem nats_iat (ns : List Nat) : BitMath.nats (iat ns) = ns := by
  induction ns with
  | nil => rfl
  | cons a l ih =>
    show ((a : Int).toNat) :: BitMath.nats (iat l) = a :: l
    rw [ih, Int.toNat_natCast]
theorem pack_nat {ns : List Nat} {w : Nat} (h : ∀ x ∈ ns, x < 2 ^ w) (hw : w ≤ 16) : BitMath.packS (iat ns) (w : Int) = packed w ns := by
  have hf : BitMath.fit w (iat ns) := by
    intro x hx
    simp only [iat, List.mem_map] at hx
    obtain ⟨a, ha, rfl⟩ := hx
    exact ⟨by omega, Int.ofNat_lt.2 (h a ha)⟩
  rw [(BitMath.pack_fit hw hf).1, nats_iat]
  unfold BitMath.packed packed
  rw [Nat.mul_comm]
theorem flag_lt (b : Bool) : flag b < 2 := by unfold flag; split <;> omega

theorem encPlain_two (vs : List Val) : encPlain 2 vs = packed 1 (vs.map fun v => flag v.b) := by unfold encPlain; rw [if_pos rfl]
theorem encPlain_other {k : Int} (vs : List Val) (h : k ≠ 2) : encPlain k vs = vs.flatMap scalar := by unfold encPlain; rw [if_neg h]
theorem truths_snoc {vs : List Val} {q : Nat} {v : Val} (h : vs[q]? = some v) : iat ((vs.take (q + 1)).map fun v => flag v.b) = iat ((vs.take q).map fun v => flag v.b) ++ [((flag v.b : Nat) : Int)] := by
  rw [take_more h, List.map_append, List.map_singleton, iat_snoc]
theorem flat_snoc {vs : List Val} {q : Nat} {v : Val} (h : vs[q]? = some v) : (vs.take (q + 1)).flatMap scalar = (vs.take q).flatMap scalar ++ scalar v := by
  rw [take_more h, List.flatMap_append]; simp
theorem pack_none (w : Nat) (hw : w ≤ 16) : BitMath.packS [] (w : Int) = [] := by
  have := pack_nat (ns := []) (w := w) (by simp) hw
  rw [show iat [] = [] from rfl] at this
  rw [this]; unfold packed; simp [BitMath.bytes]
theorem str_append (a b : List UInt8) : str a ++ str b = str (a ++ b) := by
  refine str_eq ?_
  rw [append_toList]; rfl
theorem pack_empty (w : World) : Calls Tryz.prog 89 #[.slice none 0 0, .int .i64 1] w fun e w' => e = .returned (.string (str [])) ∧ Below w.heap.size w w' := by
  have h0 : (0 : Nat) ≤ 17592186044416 := Nat.zero_le _
  have hn : ISl w none 0 [] := (OwnI.nil w 0).sl rfl
  have hp : BitMath.packS [] 1 = [] := pack_none 1 (by omega)
  have h := pack_any none 0 0 [] 1 w hn h0
  rw [hp] at h
  exact h
set_option maxRecDepth 20000 in
set_option maxHeartbeats 4000000 in
theorem plain_any (k : Int) (A : Option Addr) (n c : Nat) (vs : List Val) (w : World) (hv : VSl w A n vs) (hn : n ≤ 4096) (hf : ∀ v ∈ vs, Fine v ∧ v.s.size ≤ 64) :
    Calls Tryz.prog 85 #[.int .i64 k, .slice A n c] w fun e w' => e = .returned (.string (str (encPlain k vs))) ∧ Below w.heap.size w w' := by
  have hl := hv.1
  have HF := Lib.hid (And.intro hf hl); clear hf hl
  by_cases h2 : k = 2
  · subst h2
    rw [encPlain_two]
    go_enter Tryz.func85, Tryz.ntmps85
    go_wp2
    go_loopw [6, 11] (fun tv iv wr => ∃ q : Nat, q ≤ n ∧ iv = .int .i64 q ∧ OwnI wr (w.heap.size + 1) tv (iat ((vs.take q).map fun v => flag v.b)) ∧ Bld wr w.heap.size w.heap.size [] ∧ Below w.heap.size w wr) (fun _ iv _ => n - (intOf iv).toNat)
    case atStart => exact ⟨0, Nat.zero_le _, rfl, OwnI.nil _ _, Bld.new w, Vals.one_new _⟩
    case round =>
      obtain ⟨q, hq, rfl, hO, hB, hb⟩ := hrel
      have hml : (iat ((vs.take q).map fun v => flag v.b)).length = q := by rw [iat_length, List.length_map, List.length_take, HF.out.2]; omega
      obtain ⟨A6, c6, rfl, _, _, _⟩ := hO.form (n := q) hml
      have hszr := hb.size
      have hbl := hB.lt.1
      by_cases hlt : q < n
      · obtain ⟨b1, o1, v, hv1, rfl, hb1, c0, c1, c2, c3⟩ := (hv.below hb).at_ hlt
        have hts := truths_snoc hv1
        have hF := fun w => flag_any v.b w
        have hfl : (iat ((vs.take q).map fun v => flag v.b)).length < few := by rw [hml]; unfold few; omega
        generalize iat ((vs.take q).map fun v => flag v.b) = T at *
        generalize flag v.b = f at *
        have HT := Lib.hid (And.intro hts (And.intro hml hfl)); clear hts hml hfl hv1
        have HFl := Lib.hid hF; clear hF
        have HO := Lib.hid hO; clear hO
        have HB := Lib.hid hB; clear hB
        obtain ⟨kv, iv, bv, sv⟩ := v
        simp only [] at c0 c1 c2 c3 HFl
        have hbt := bthen hb (Vals.one_new (.cells #[.int .i64 kv, .int .i64 iv, .bool bv, .string sv] 71)) (Nat.le_refl _)
        have HBT := Lib.hid hbt; clear hbt
        go_wp2_with (first
          | (go_at_call 84; with_reducible refine (HFl.out _).mono ?_; rintro e w2 ⟨rfl, rfl⟩)
          | (at_builtin; (refine wpList_push_int (t := 3) (fr := (0, 0)) rfl (.tmp 17) (.tmp 21) rfl (w.heap.size + 1) (.slice A6 q c6) T (f : Int) (wr.heap.size + 1) 1 rfl rfl (by rw [show wr.heap.size + 1 = (wr.alloc (.cells #[.int .i64 kv, .int .i64 iv, .bool bv, .string sv] 71)).heap.size by simp]; exact heap_alloc_new _ (.cells #[.int .i64 (f : Int)] 3)) ((HO.out.alloc (.cells #[.int .i64 kv, .int .i64 iv, .bool bv, .string sv] 71)).alloc (.cells #[.int .i64 (f : Int)] 3)) HT.out.2.2 (by simp; omega) ?_; intro u2 wB hI2 hgB hatB); (have hB2 := (((HB.out.alloc (.cells #[.int .i64 kv, .int .i64 iv, .bool bv, .string sv] 71)).alloc (.cells #[.int .i64 (f : Int)] 3))).keepI ((HO.out.alloc (.cells #[.int .i64 kv, .int .i64 iv, .bool bv, .string sv] 71)).alloc (.cells #[.int .i64 (f : Int)] 3)) hgB); (have hbB := (HBT.out.alloc HBT.out.size (.cells #[.int .i64 (f : Int)] 3)).grown hgB (Below.size (HBT.out.alloc HBT.out.size (.cells #[.int .i64 (f : Int)] 3))) (fun j hj => by have := own_base HO.out j hj; omega)); have HR := Lib.hid (And.intro hI2 (And.intro hB2 hbB)); clear hI2 hB2 hbB hgB hatB))
        go_roundw
        case rel => exact ⟨q + 1, by omega, by go_num, by rw [HT.out.1]; exact HR.out.1, HR.out.2.1, HR.out.2.2⟩
        case measure => simp [intOf]; omega
      · obtain rfl : q = n := by omega
        have htk : vs.take q = vs := List.take_of_length_le (by rw [HF.out.2]; exact Nat.le_refl _)
        rw [htk] at hO hml
        have hpk : BitMath.packS (iat (vs.map fun v => flag v.b)) 1 = packed 1 (vs.map fun v => flag v.b) := pack_nat (ns := vs.map fun v => flag v.b) (w := 1) (by intro x hx; simp only [List.mem_map] at hx; obtain ⟨v, _, rfl⟩ := hx; exact flag_lt _) (by omega)
        have hpl := packed_length 1 (vs.map fun v => flag v.b)
        rw [List.length_map, HF.out.2] at hpl
        obtain ⟨R, hR⟩ : ∃ R, R = packed 1 (vs.map fun v => flag v.b) := ⟨_, rfl⟩
        rw [← hR] at hpk hpl
        generalize iat (vs.map fun v => flag v.b) = T at *
        have hadd := add_str (str []) (str R) (by rw [str_size, str_size, hpl]; simp; omega)
        have hne : (Value.slice A6 q c6).ownBlock ≠ some w.heap.size := fun e => by have := own_base hO _ e; omega
        have HO := Lib.hid hO; clear hO
        have HB := Lib.hid hB; clear hB
        have HP := Lib.hid (And.intro hpk (And.intro hml (And.intro hne hR))); clear hpk hml hne hR hpl
        go_wp2_with (first
          | (go_at_call 31; (refine (string_k w.heap.size w.heap.size [] _ HB.out hszr).mono ?_); rintro e w2 ⟨rfl, hb2, hk2⟩; have HO2 := Lib.hid (OwnI.others HO.out hk2 HP.out.2.2.1); clear hk2; have hbb := hb.trans hb2)
          | (go_at_call 89; (refine (pack_any A6 q c6 T 1 _ (HO2.out.sl HP.out.2.1) (by omega)).mono ?_); rw [HP.out.1]; rintro e w3 ⟨rfl, hb3⟩))
        go_ret
        exact ⟨ret_str (by rw [← HP.out.2.2.2, str_append]; rfl), bthen hbb hb3 (Nat.le_refl _)⟩
  · rw [encPlain_other vs h2]
    have hk2 : (k == 2) = false := by simpa using h2
    clear h2
    go_enter Tryz.func85, Tryz.ntmps85
    go_wp2
    go_loopw [6, 11] (fun tv iv wr => ∃ q : Nat, q ≤ n ∧ iv = .int .i64 q ∧ tv = .slice none 0 0 ∧ Bld wr w.heap.size w.heap.size ((vs.take q).flatMap scalar) ∧ Below w.heap.size w wr) (fun _ iv _ => n - (intOf iv).toNat)
    case atStart => exact ⟨0, Nat.zero_le _, rfl, rfl, Bld.new w, Vals.one_new _⟩
    case round =>
      obtain ⟨q, hq, rfl, rfl, hB, hb⟩ := hrel
      have hszr := hb.size
      have hbl := hB.lt.1
      have hfl := flat_length (vs.take q) (fun v hv => (HF.out.1 v (List.mem_of_mem_take hv)).2)
      have htl : (vs.take q).length ≤ q := List.length_take_le _ _
      by_cases hlt : q < n
      · obtain ⟨b1, o1, v, hv1, rfl, hb1, c0, c1, c2, c3⟩ := (hv.below hb).at_ hlt
        have hts := flat_snoc hv1
        have hvf := HF.out.1 v (List.mem_of_getElem? hv1)
        have hsl := scalar_length v hvf.2
        have hS := fun w => scalar_any v w hvf.1
        generalize (vs.take q).flatMap scalar = L at *
        generalize scalar v = S at *
        have hwl : L.length + (str S).size ≤ 140737488355328 := by rw [str_size]; omega
        have HT := Lib.hid (And.intro hts hwl); clear hts hv1 hvf hwl
        have HS := Lib.hid hS; clear hS
        have HB := Lib.hid hB; clear hB
        obtain ⟨kv, iv, bv, sv⟩ := v
        simp only [] at c0 c1 c2 c3
        have hbt := bthen hb (Vals.one_new (.cells #[.int .i64 kv, .int .i64 iv, .bool bv, .string sv] 71)) (Nat.le_refl _)
        have HBT := Lib.hid hbt; clear hbt
        go_wp2_with (first
          | (go_at_call 60; (with_reducible refine (HS.out _).mono ?_); rintro e w2 ⟨rfl, hb2⟩; have HB2 := Lib.hid ((HB.out.alloc (.cells #[.int .i64 kv, .int .i64 iv, .bool bv, .string sv] 71)).below hb2); have HBT2 := Lib.hid (bthen HBT.out hb2 (Nat.le_refl _)); clear hb2)
          | (go_at_call 25; (refine (write_any w.heap.size w.heap.size L (str S) _ HB2.out HT.out.2 HBT2.out.size).mono ?_); rintro e w3 ⟨rfl, hU, hb3⟩; have HR := Lib.hid (And.intro hU (HBT2.out.trans hb3)); clear hU hb3))
        go_roundw
        case rel => exact ⟨q + 1, by omega, by go_num, rfl, by rw [HT.out.1]; exact HR.out.1.bld, HR.out.2⟩
        case measure => simp [intOf]; omega
      · obtain rfl : q = n := by omega
        have htk : vs.take q = vs := List.take_of_length_le (by rw [HF.out.2]; exact Nat.le_refl _)
        rw [htk] at hB hfl
        have hfv := HF.out.2
        have hadd := add_str (str (vs.flatMap scalar)) (str []) (by rw [str_size, str_size]; simp only [List.length_nil]; omega)
        have hst := str_append (vs.flatMap scalar) []
        rw [List.append_nil] at hst
        have HST := Lib.hid hst; clear hst
        have HB := Lib.hid hB; clear hB
        have HPk := Lib.hid pack_empty
        go_wp2_with (first
          | (go_at_call 31; (refine (string_any w.heap.size w.heap.size (vs.flatMap scalar) _ HB.out hszr).mono ?_); rintro e w2 ⟨rfl, hb2⟩; have hbb := hb.trans hb2)
          | (go_at_call 89; (with_reducible refine (HPk.out _).mono ?_); rintro e w3 ⟨rfl, hb3⟩))
        go_ret
        exact ⟨ret_str (by rw [HST.out]), bthen hbb hb3 (Nat.le_refl _)⟩
end Go.Proofs.YtgmemdedpklnhaaGreat.Vec

/-
  THE WALKS of vec.repeated and vec.placed.
-/

namespace Go.Proofs.YtgmemdedpklnhaaGreat.Vec
open Go.RowKit ValMath Vals Sl VecMath Bld Words

theorem run_len (p : Nat × Val) (h : p.2.s.size ≤ 64) : (runBytes p).length ≤ 84 := by
  have h1 := cnt_size p.1
  have h2 := scalar_length p.2 h
  unfold runBytes
  rw [List.length_append]; omega
theorem runs_len (a : List (Nat × Val)) (h : ∀ p ∈ a, p.2.s.size ≤ 64) : (a.flatMap runBytes).length ≤ a.length * 84 := by
  induction a with
  | nil => simp
  | cons p a ih =>
    have h1 := run_len p (h p (by simp))
    have h2 := ih (fun u hu => h u (by simp [hu]))
    rw [List.flatMap_cons, List.length_append, List.length_cons]; omega
theorem runs_snoc {a : List (Nat × Val)} {q : Nat} {p : Nat × Val} (h : a[q]? = some p) : (a.take (q + 1)).flatMap runBytes = (a.take q).flatMap runBytes ++ (cnt p.1 ++ scalar p.2) := by
  rw [take_more h, List.flatMap_append]; simp [runBytes]
theorem encRuns_eq (vs : List Val) : encRuns vs = cnt (cut vs).length ++ (cut vs).flatMap runBytes := rfl
set_option maxRecDepth 20000 in
set_option maxHeartbeats 4000000 in
theorem repeated_any (A : Option Addr) (n c : Nat) (vs : List Val) (w : World) (hv : VSl w A n vs) (hn : n ≤ 4096) (hf : ∀ v ∈ vs, Fine v ∧ v.s.size ≤ 64) :
    Calls Tryz.prog 86 #[.slice A n c] w fun e w' => e = .returned (.string (str (encRuns vs))) ∧ Below w.heap.size w w' := by
  have hl := hv.1
  have hm := cut_length vs
  have hcf : ∀ p ∈ cut vs, Fine p.2 ∧ p.2.s.size ≤ 64 ∧ p.1 ≤ 4096 := fun p hp => by
    obtain ⟨u, hu, e⟩ := cut_mem vs p hp
    have h2 := (cut_counts vs p hp).2
    rw [← e]
    exact ⟨fine_clean (hf u hu).1, Nat.le_trans (clean_size u) (hf u hu).2, by omega⟩
  rw [hl] at hm
  have hC := Runs.cut_any A n c vs w hv (by omega)
  rw [encRuns_eq]
  generalize cut vs = a at *
  have HC := Lib.hid hC; clear hC hv hf hl
  have HF := Lib.hid hcf; clear hcf
  have hK := fun w => count_any a.length w (by omega)
  have HK := Lib.hid hK; clear hK
  go_enter Tryz.func86, Tryz.ntmps86
  go_wp2_with (first
    | (go_at_call 111; (with_reducible refine HC.out.mono ?_); rintro e w1 ⟨u1, u2, rfl, h1, h2, hb1⟩; obtain ⟨A1, c1, rfl, _⟩ := h1.form (n := a.length) (Runs.counts_length a); obtain ⟨A2, c2, rfl, _⟩ := h2.form' (n := a.length) (Runs.vals_length a); have H1 := Lib.hid (h1.sl (Runs.counts_length a)); have H2 := Lib.hid (h2.sl (Runs.vals_length a)); clear h1 h2)
    | (go_at_call 88; (with_reducible refine (HK.out _).mono ?_); rintro e w2 ⟨rfl, hb2⟩; have H12 := Lib.hid (H1.out.below hb2); have H22 := Lib.hid (H2.out.below hb2); have hbt := bthen hb1 hb2 (Nat.le_refl _); clear hb2 hb1 H1 H2))
  obtain ⟨wo, rfl⟩ : ∃ wo : World, wo = w2 := ⟨_, rfl⟩
  go_loopw [5, 18] (fun ov iv wr => ∃ q : Nat, q ≤ a.length ∧ iv = .int .i64 q ∧ ov = .string (str (cnt a.length ++ (a.take q).flatMap runBytes)) ∧ Below wo.heap.size wo wr) (fun _ iv _ => a.length - (intOf iv).toNat)
  case atStart => exact ⟨0, Nat.zero_le _, rfl, by simp, Below.refl _ _⟩
  case round =>
    obtain ⟨q, hq, rfl, rfl, hb⟩ := hrel
    by_cases hlt : q < a.length
    · obtain ⟨b1, o1, x, hx1, rfl, hb1, d0⟩ := (H12.out.below hb).at_ hlt
      obtain ⟨b2, o2, v, hv1, rfl, hb2, c0, c1, c2, c3⟩ := (H22.out.below hb).at_ hlt
      obtain ⟨p, hp⟩ : ∃ p, a[q]? = some p := ⟨_, List.getElem?_eq_getElem hlt⟩
      have hx2 : x = (p.1 : Int) := by unfold Runs.counts at hx1; rw [List.getElem?_map, hp] at hx1; injection hx1 with hx1; exact hx1.symm
      have hv2 : v = p.2 := by unfold Runs.vals at hv1; rw [List.getElem?_map, hp] at hv1; injection hv1 with hv1; exact hv1.symm
      subst hx2; subst hv2
      clear hx1 hv1
      have hpf := HF.out p (List.mem_of_getElem? hp)
      have hsn := runs_snoc hp
      have hl1 := runs_len (a.take q) (fun u hu => (HF.out u (List.mem_of_mem_take hu)).2.1)
      have hl2 : (a.take q).length ≤ q := List.length_take_le _ _
      have hl3 := cnt_size a.length
      have hl4 := cnt_size p.1
      have hl5 := scalar_length p.2 hpf.2.1
      have hk1 := fun w => count_any p.1 w (by omega)
      have hk2 := fun w => scalar_any p.2 w hpf.1
      have e2 := str_append (cnt p.1) (scalar p.2)
      have hadd1 := add_str (str (cnt p.1)) (str (scalar p.2)) (by rw [str_size, str_size]; omega)
      have hadd2 := add_str (str (cnt a.length ++ (a.take q).flatMap runBytes)) (str (cnt p.1) ++ str (scalar p.2)) (by rw [e2, str_size, str_size, List.length_append, List.length_append]; omega)
      have e3 : str (cnt a.length ++ (a.take q).flatMap runBytes) ++ (str (cnt p.1) ++ str (scalar p.2)) = str (cnt a.length ++ (a.take (q + 1)).flatMap runBytes) := by rw [e2, str_append, hsn, List.append_assoc]
      have HE := Lib.hid e3; clear e2 e3 hsn
      generalize str (cnt a.length ++ (a.take q).flatMap runBytes) = O at *
      obtain ⟨pc, pv⟩ := p
      simp only [] at *
      generalize str (cnt pc) = S1 at *
      generalize str (scalar pv) = S2 at *
      obtain ⟨kv, iv, bv, sv⟩ := pv
      simp only [] at c0 c1 c2 c3
      clear hpf hp hl1 hl2 hl3 hl4 hl5
      have HK1 := Lib.hid hk1; clear hk1
      have HK2 := Lib.hid hk2; clear hk2
      have hbx := At4.new wr wr.heap.size rfl ⟨kv, iv, bv, sv⟩ 71
      have hbb := bthen hb (Vals.one_new (.cells #[.int .i64 kv, .int .i64 iv, .bool bv, .string sv] 71)) (Nat.le_refl _)
      have hd := (Vals.one_new (w := wr) (.cells #[.int .i64 kv, .int .i64 iv, .bool bv, .string sv] 71)).cell (p := ⟨b1, o1 + q, none⟩) hb1
      rw [d0] at hd
      have hg : wr.heap.size < (wr.alloc (.cells #[.int .i64 kv, .int .i64 iv, .bool bv, .string sv] 71)).heap.size := by simp
      have hb1' : b1 < (wr.alloc (.cells #[.int .i64 kv, .int .i64 iv, .bool bv, .string sv] 71)).heap.size := Nat.lt_trans hb1 hg
      go_upto_region 6 with fail
      have HX := Lib.hid (And.intro hd hbx)
      have hi1 : (0 : Int) ≤ (q : Int) := by omega
      have hi2 : (q : Int) < (a.length : Int) := by omega
      clear hb hb1 c0 c1 c2 c3 d0
      generalize hW0 : wr.alloc (.cells #[.int .i64 kv, .int .i64 iv, .bool bv, .string sv] 71) = W0 at *
      generalize wr.heap.size = g9 at *
      clear hW0
      obtain ⟨f0, f1, f2, f3⟩ := hbx.zero
      simp only [] at f0 f1 f2 f3
      clear hbx
      go_region_held3 (fun w' => w'.cell? ⟨b1, o1 + q, none⟩ = some (.int .i64 pc) ∧
          (w'.cell? ⟨g9, 0, none⟩ = some (.int .i64 kv) ∧ w'.cell? ⟨g9, 1, none⟩ = some (.int .i64 iv) ∧ w'.cell? ⟨g9, 2, none⟩ = some (.bool bv) ∧ w'.cell? ⟨g9, 3, none⟩ = some (.string sv)))
        (first | go_keep | exact ⟨(hbK.cell (p := ⟨b1, o1 + q, none⟩) hb1').trans HX.out.1, (HX.out.2.drew.below hbK hg).zero⟩ | exact ⟨(hbS.cell (p := ⟨b1, o1 + q, none⟩) (Nat.lt_of_lt_of_le hb1' hbK.size)).trans ((hbK.cell (p := ⟨b1, o1 + q, none⟩) hb1').trans HX.out.1), ((HX.out.2.drew.below hbK hg).below hbS (Nat.lt_of_lt_of_le hg hbK.size)).zero⟩)
        ((first
          | (go_at_call 88; with_reducible refine (HK1.out _).mono ?_; rintro e wK ⟨rfl, hbK⟩)
          | (go_at_call 60; with_reducible refine (HK2.out _).mono ?_; rintro e wS ⟨rfl, hbS⟩)))
      have hb3 := bthen (bthen hbb.drew hbK (Nat.le_refl _)) hbS (Nat.le_refl _)
      go_wp2
      go_roundw
      case rel => exact ⟨q + 1, by omega, by go_num, by rw [HE.out], hb3⟩
      case measure => simp [intOf]; omega
    · obtain rfl : q = a.length := by omega
      rw [List.take_of_length_le (Nat.le_refl _)]
      go_wp2
      go_ret
      exact ⟨rfl, bthen hbt hb (Nat.le_refl _)⟩

theorem encWords_eq (vs : List Val) : encWords vs = cnt (build vs).1.length ++ (build vs).1.flatMap scalar ++ packed (width ((build vs).1.length - 1)) (build vs).2 := rfl
theorem width_pred (m : Nat) : BitMath.width ((m : Int) - 1) = width (m - 1) := by
  unfold BitMath.width width
  congr 1; omega
theorem width_le {m : Nat} (h : m ≤ 4096) : width (m - 1) ≤ 12 := by
  unfold width
  exact (BitMath.len_le (n := 64) (by omega)).2 (by omega)
theorem words_packed (vs : List Val) (h : vs.length ≤ 4096) : BitMath.packS (iat (build vs).2) ((width ((build vs).1.length - 1) : Nat) : Int) = packed (width ((build vs).1.length - 1)) (build vs).2 := by
  have h1 := build_ws_length vs
  refine pack_nat (fun x hx => ?_) (Nat.le_trans (width_le (by omega)) (by omega))
  have h2 := build_at_lt vs x hx
  have h3 := width_lt (n := (build vs).1.length - 1) (by omega)
  omega
set_option maxRecDepth 20000 in
set_option maxHeartbeats 4000000 in
theorem placed_any (A : Option Addr) (n c : Nat) (vs : List Val) (w : World) (hv : VSl w A n vs) (hn : n ≤ 4096) (hf : ∀ v ∈ vs, Fine v ∧ v.s.size ≤ 64) :
    Calls Tryz.prog 87 #[.slice A n c] w fun e w' => e = .returned (.string (str (encWords vs))) ∧ Below w.heap.size w w' := by
  have hl := hv.1
  have hm := build_ws_length vs
  have ha := build_at_length vs
  have hcf : ∀ u ∈ (build vs).1, Fine u ∧ u.s.size ≤ 64 := fun u hu => by
    obtain ⟨x, hx, e⟩ := (build_ws_mem vs u).1 hu
    rw [← e]
    exact ⟨fine_clean (hf x hx).1, Nat.le_trans (clean_size x) (hf x hx).2⟩
  have hpk := words_packed vs (by omega)
  have hpl := packed_length (width ((build vs).1.length - 1)) (build vs).2
  have hwl := width_le (m := (build vs).1.length) (by omega)
  rw [hl] at hm ha
  rw [ha] at hpl
  have hB := build_any A n c vs w hv (by omega) (fun v h => (hf v h).1)
  rw [encWords_eq]
  generalize build vs = s at *
  obtain ⟨W, P⟩ := s
  simp only [] at hm ha hcf hpk hpl hwl hB ⊢
  have hwp := width_pred W.length
  have hPl : (packed (width (W.length - 1)) P).length ≤ 8192 := by
    rw [hpl]
    have h1 : n * width (W.length - 1) ≤ 4096 * 12 := Nat.mul_le_mul hn hwl
    omega
  clear hpl
  generalize packed (width (W.length - 1)) P = K at *
  generalize width (W.length - 1) = wd at *
  have hil : (iat P).length = n := by rw [iat_length, ha]
  have hk := fun w => count_any W.length w (by omega)
  have hwd := fun w => Bitpack.width_any ((W.length : Int) - 1) w (by omega)
  rw [hwp] at hwd
  have hw1 : IntKind.i64.wrap ((W.length : Int) - 1) = (W.length : Int) - 1 := IntWalk.i64_in _ (by omega)
  have hcl := cnt_size W.length
  clear hv hf hl
  have HC := Lib.hid hB; clear hB
  have HF := Lib.hid (And.intro hcf (And.intro hpk (And.intro hPl hil))); clear hcf hpk hPl hil
  have HK := Lib.hid hk; clear hk
  have HW := Lib.hid hwd; clear hwd hwp
  go_enter Tryz.func87, Tryz.ntmps87
  go_wp2_with (first
    | (go_at_call 112; (with_reducible refine HC.out.mono ?_); rintro e wo ⟨u1, u2, rfl, h1, h2, hb1⟩; obtain ⟨A1, c1, rfl, _⟩ := h1.form' (n := W.length) rfl; obtain ⟨A2, c2, rfl, _⟩ := h2.form (n := n) HF.out.2.2.2; have H1 := Lib.hid (h1.sl rfl); have H2 := Lib.hid (h2.sl HF.out.2.2.2); clear h1 h2; have hn0 := Bld.new wo; have HN0 := Lib.hid hn0; clear hn0; have ho1 := Vals.one_new (w := wo) (.cells #[.pointer none, .slice none 0 0] 56))
    | (go_at_call 88; (with_reducible refine (HK.out _).mono ?_); rintro e w2 ⟨rfl, hb2⟩; have HN2 := Lib.hid (HN0.out.below hb2); have ho2 := bthen ho1 hb2 (Nat.le_refl _); clear hb2 ho1 HN0)
    | (go_at_call 25; (refine (write_any wo.heap.size wo.heap.size [] (str (cnt W.length)) _ HN2.out (by rw [str_size]; simp; omega) ho2.size).mono ?_); rintro e w3 ⟨rfl, hU, hb3⟩; have ho3 := ho2.trans hb3; clear hb3 ho2 HN2; have HU := Lib.hid hU.bld; clear hU))
  go_loopw [19] (fun iv wr => ∃ q : Nat, q ≤ W.length ∧ iv = .int .i64 q ∧ Bld wr wo.heap.size wo.heap.size (cnt W.length ++ (W.take q).flatMap scalar) ∧ Below wo.heap.size wo wr) (fun iv _ => W.length - (intOf iv).toNat)
  case atStart => exact ⟨0, Nat.zero_le _, rfl, by simpa using HU.out, ho3⟩
  case round =>
    clear HU ho3
    obtain ⟨q, hq, rfl, hB, hb⟩ := hrel
    have hszr := hb.size
    have hfl := flat_length (W.take q) (fun v hv => (HF.out.1 v (List.mem_of_mem_take hv)).2)
    have htl : (W.take q).length ≤ q := List.length_take_le _ _
    by_cases hlt : q < W.length
    · obtain ⟨b1, o1, v, hv1, rfl, hb1, c0, c1, c2, c3⟩ := (H1.out.below hb).at_ hlt
      have hts := flat_snoc hv1
      have hvf := HF.out.1 v (List.mem_of_getElem? hv1)
      have hsl := scalar_length v hvf.2
      have hS := fun w => scalar_any v w hvf.1
      have e4 : cnt W.length ++ (W.take q).flatMap scalar ++ scalar v = cnt W.length ++ (W.take (q + 1)).flatMap scalar := by rw [hts, List.append_assoc]
      have hll : (cnt W.length ++ (W.take q).flatMap scalar).length ≤ 10 + 4096 * 74 := by rw [List.length_append]; omega
      generalize cnt W.length ++ (W.take q).flatMap scalar = L at *
      generalize scalar v = S at *
      have hwl2 : L.length + (str S).size ≤ 140737488355328 := by rw [str_size]; omega
      have HT := Lib.hid (And.intro e4 hwl2); clear hts hv1 hvf hwl2 e4 hll hsl hfl htl
      have HS := Lib.hid hS; clear hS
      have HB := Lib.hid hB; clear hB
      obtain ⟨kv, iv, bv, sv⟩ := v
      simp only [] at c0 c1 c2 c3
      have hbt := bthen hb (Vals.one_new (.cells #[.int .i64 kv, .int .i64 iv, .bool bv, .string sv] 71)) (Nat.le_refl _)
      have HBT := Lib.hid hbt; clear hbt
      go_wp2_with (first
        | (go_at_call 60; (with_reducible refine (HS.out _).mono ?_); rintro e w2 ⟨rfl, hb2⟩; have HB2 := Lib.hid ((HB.out.alloc (.cells #[.int .i64 kv, .int .i64 iv, .bool bv, .string sv] 71)).below hb2); have HBT2 := Lib.hid (bthen HBT.out hb2 (Nat.le_refl _)); clear hb2)
        | (go_at_call 25; (refine (write_any wo.heap.size wo.heap.size L (str S) _ HB2.out HT.out.2 HBT2.out.size).mono ?_); rintro e w3 ⟨rfl, hU, hb3⟩; have HR := Lib.hid (And.intro hU (HBT2.out.trans hb3)); clear hU hb3))
      go_roundw
      case rel => exact ⟨q + 1, by omega, by go_num, by rw [← HT.out.1]; exact HR.out.1.bld, HR.out.2⟩
      case measure => simp [intOf]; omega
    · obtain rfl : q = W.length := by omega
      rw [List.take_of_length_le (Nat.le_refl _)] at hB hfl
      have hll : (cnt W.length ++ W.flatMap scalar).length ≤ 10 + 4096 * 74 := by rw [List.length_append]; omega
      have hst := str_append (cnt W.length ++ W.flatMap scalar) K
      have hadd := add_str (str (cnt W.length ++ W.flatMap scalar)) (str K) (by have := HF.out.2.2.1; rw [str_size, str_size]; omega)
      have HST := Lib.hid hst; clear hst
      obtain ⟨L, hL⟩ : ∃ L, L = cnt W.length ++ W.flatMap scalar := ⟨_, rfl⟩
      rw [← hL] at hB hadd HST
      have HL := Lib.hid hL; clear hL
      have HB := Lib.hid hB; clear hB
      clear hfl htl hll
      go_wp2_with (first
        | (go_at_call 31; (refine (string_any wo.heap.size wo.heap.size L _ HB.out hszr).mono ?_); rintro e w2 ⟨rfl, hb2⟩; have hbb := hb.trans hb2)
        | (go_at_call 106; (with_reducible refine (HW.out _).mono ?_); rintro e w4 ⟨rfl, rfl⟩)
        | (go_at_call 89; (refine (pack_any A2 n c2 (iat P) (wd : Int) _ (H2.out.below hbb) (by omega)).mono ?_); rw [HF.out.2.1]; rintro e w3 ⟨rfl, hb3⟩))
      go_ret
      exact ⟨ret_str (by rw [HST.out, HL.out]), bthen (bthen hb1 hbb (Nat.le_refl _)) hb3 (Nat.le_refl _)⟩
end Go.Proofs.YtgmemdedpklnhaaGreat.Vec

/-
  THE WALKS of the document's own numbers: boathouseref1.parts, Varint, get, Unvarint, Zig, Zag.
-/

namespace Go.Proofs.YtgmemdedpklnhaaGreat.Varint
open Go.RowKit VarMath

set_option maxRecDepth 20000 in
set_option maxHeartbeats 1000000 in
theorem parts_any (x : Nat) (w : World) (hx : x < 18446744073709551616) :
    Calls Tryz.prog 63 #[.int .u64 (x : Nat)] w fun e w' => e = .returned (.string (str (enc x))) ∧ Below w.heap.size w w' := by
  go_enter Tryz.func63, Tryz.ntmps63
  go_wp2
  go_loopw [0, 3] (fun xv ov wr => PutAt x w.heap.size xv ov w wr) (fun xv _ _ => (intOf xv).toNat)
  case atStart => exact ⟨9, x, [], rfl, fits hx, hx, rfl, rfl, OwnB.nil _ _, Below.refl _ _⟩
  case round =>
    obtain ⟨n, z, l, hn, hz, hz2, rfl, hl, hO, hb⟩ := hrel
    have HO := Lib.hid hO; clear hO
    by_cases hlt : z < 128
    · rw [put_stop hlt] at hl
      have HL := Lib.hid hl; clear hl
      have hbv := bv_nat (x := z) (by omega)
      go_wp2_with (first
        | (refine wpList_push_byte rfl _ _ rfl w.heap.size _ l (UInt8.ofNat z) wr.heap.size 1 rfl rfl (t := 5) (fr := (0, 0)) (by rw [hbv]; exact heap_alloc_new wr _) (HO.out.alloc _) (by unfold fewB; omega) (by have := hb.size; simp; omega) ?_; intro u wA hA hgA hatA; have HA := Lib.hid hA; clear hA)
        | (refine wpList_own_string rfl _ _ 5 _ rfl u rfl w.heap.size (l ++ [UInt8.ofNat z]) HA.out Tryz.underlying54 Tryz.underlying5 Tryz.underlying9 ?_))
      go_ret
      refine ⟨by rw [HL.out]; rfl, ?_⟩
      exact (hb.alloc hb.size _).grown hgA (by have := hb.size; simp; omega) (own_base HO.out)
    · have h1 : n ≠ 0 := by rintro rfl; simp at hz; omega
      obtain ⟨m, rfl⟩ : ∃ m, n = m + 1 := ⟨n - 1, by omega⟩
      rw [put_go (by omega)] at hl
      have hz3 := div_lt_pow hz
      have HL := Lib.hid hl; clear hl
      have HZ := Lib.hid hz3; clear hz3 hz
      have hbv := bv_nat (x := z % 128 + 128) (by omega)
      have hcz : (z : Int) % 128 + 128 = ((z % 128 + 128 : Nat) : Int) := by omega
      have hcl : z % 128 + 128 < 256 := by omega
      generalize z % 128 + 128 = c at *
      go_wp2_with (first
        | (refine wpList_push_byte rfl _ _ rfl w.heap.size _ l (UInt8.ofNat c) wr.heap.size 1 rfl rfl (t := 5) (fr := (0, 0)) (by rw [hbv]; exact heap_alloc_new wr _) (HO.out.alloc _) (by unfold fewB; omega) (by have := hb.size; simp; omega) ?_; intro u wA hA hgA hatA; have HA := Lib.hid hA; clear hA))
      go_roundw
      case rel => exact ⟨m, z / 128, l ++ [UInt8.ofNat c], by simp; omega, HZ.out, by omega, by go_num, by rw [HL.out]; simp, HA.out, (hb.alloc hb.size _).grown hgA (by have := hb.size; simp; omega) (own_base HO.out)⟩
      case measure => simp [intOf]; omega

set_option maxRecDepth 100000 in
set_option maxHeartbeats 1000000 in
theorem Varint_any (x : Nat) (w : World) (hx : x < 9223372036854775808) :
    Calls Tryz.prog 32 #[.int .i64 (x : Nat)] w fun e w' => e = .returned (.string (str (enc x))) ∧ Below w.heap.size w w' := by
  have H := fun w => parts_any x w (by omega)
  generalize str (enc x) = S at H ⊢
  have HH := Lib.hid H; clear H
  go_enter Tryz.func32, Tryz.ntmps32
  go_wp2_with (go_at_call 63; with_reducible refine (HH.out _).mono ?_; rintro e w1 ⟨rfl, hb1⟩)
  go_ret
  exact ⟨rfl, hb1⟩
set_option maxRecDepth 100000 in
set_option maxHeartbeats 1000000 in
theorem refZig_any (x : Int) (w : World) (h1 : -9223372036854775808 ≤ x) (h2 : x < 9223372036854775808) :
    Calls Tryz.prog 101 #[.int .i64 x] w fun e w' => e = .returned (.string (str (enc (zig x)))) ∧ Below w.heap.size w w' := by
  have H := fun w => parts_any (zig x) w (zig_lt h1 h2)
  have hz : (zig x : Int) = if x < 0 then -(x + 1) * 2 + 1 else x * 2 := by unfold zig; split <;> omega
  generalize str (enc (zig x)) = S at H ⊢
  generalize (zig x : Int) = z at H hz
  have HH := Lib.hid H; clear H
  by_cases h0 : x < 0
  · rw [if_pos h0] at hz
    subst hz
    go_enter Tryz.func101, Tryz.ntmps101
    go_wp2_with (go_at_call 63; with_reducible refine (HH.out _).mono ?_; rintro e w1 ⟨rfl, hb1⟩)
    go_ret
    exact ⟨rfl, hb1⟩
  · rw [if_neg h0] at hz
    subst hz
    go_enter Tryz.func101, Tryz.ntmps101
    go_wp2_with (go_at_call 63; with_reducible refine (HH.out _).mono ?_; rintro e w1 ⟨rfl, hb1⟩)
    go_ret
    exact ⟨rfl, hb1⟩

theorem or_shift {v p : Nat} (hp : p < 128) (hv : v * 128 + p < 18446744073709551616) : bits .or .u64 (IntKind.u64.wrap ((v : Int) * 128)) (p : Int) = ((v * 128 + p : Nat) : Int) := by
  have e : IntKind.u64.wrap ((v : Int) * 128) = ((v * 128 : Nat) : Int) := by rw [IntKind.wrap_u64]; omega
  rw [e, or_u64 _ _ (by omega) (by omega), Nat.or_comm]
  have := or_disjoint (v := p) (i := 7) (p := v) (by omega)
  rw [show v * 128 = v * 2 ^ 7 by omega, this]; omega

set_option maxRecDepth 200000 in
set_option maxHeartbeats 4000000 in
theorem refGet_any (s : ByteArray) (at_ : Int) (b : Nat) (w : World) (hs : s.size ≤ maxReach) (h1 : -9223372036854775808 ≤ at_) (h2 : at_ < 9223372036854775808) (most : Int) (hb : b ≤ 64) (hmo : most = ((2 ^ b : Nat) : Int) - 1) :
    Calls Tryz.prog 108 #[.string s, .int .i64 at_, .int .u64 most] w fun e w' => e = .returned (.tuple #[.int .u64 (gNum b s.data.toList at_ : Nat), .int .i64 (gEnd b s.data.toList at_), .int .i64 (gCode b s.data.toList at_)]) ∧ w = w' := by
  unfold maxReach at hs
  have hl : s.data.toList.length = s.size := by simp
  have HB := Lib.hid (And.intro hb hmo); clear hb hmo
  by_cases hout : at_ < 0 ∨ (s.size : Int) < at_
  · obtain ⟨e1, e2, e3⟩ := g_out (bits := b) (l := s.data.toList) (by rw [hl]; exact hout)
    rw [e1, e2, e3]
    clear e1 e2 e3 hl
    go_enter Tryz.func108, Tryz.ntmps108
    by_cases h0 : at_ < 0
    · go_wp2
      go_ret3
      exact ⟨rfl, rfl⟩
    · have h3 : (s.size : Int) < at_ := by omega
      go_wp2
      go_ret3
      exact ⟨rfl, rfl⟩
  obtain ⟨a, rfl⟩ : ∃ a : Nat, at_ = (a : Nat) := ⟨at_.toNat, by omega⟩
  have ha : a ≤ s.size := by omega
  clear h1 h2
  have hdl : (s.data.toList.drop a).length = s.size - a := by rw [List.length_drop, hl]
  obtain ⟨c, hc⟩ : ∃ c, c = cont (s.data.toList.drop a) := ⟨_, rfl⟩
  have hcl := cont_le (s.data.toList.drop a)
  rw [hdl, ← hc] at hcl
  have hge : ∀ j, j < c → 128 ≤ byteAt s.data.toList (a + j) := fun j hj => by
    rw [drop_at]; exact cont_ge (by rw [← hc]; exact hj)
  have hlt : c < s.size - a → byteAt s.data.toList (a + c) < 128 := fun h => by
    have := cont_lt (l := s.data.toList.drop a) (by rw [← hc, hdl]; exact h)
    rw [← hc] at this
    rw [drop_at]; exact this
  have HC := Lib.hid hc; clear hc
  have HG := Lib.hid (And.intro hge hlt); clear hge hlt
  have HDL := Lib.hid (And.intro hl hdl); clear hl hdl hout
  go_enter Tryz.func108, Tryz.ntmps108
  go_wp2
  go_loop [9] (fun e => ∃ k : Nat, k ≤ c ∧ e = .int .i64 k) (fun e => s.size - (intOf e).toNat)
  case atStart => exact ⟨0, by omega, rfl⟩
  case round =>
    obtain ⟨k, hk, rfl⟩ := hrel
    by_cases hkm : k < c
    · have hks : a + k < s.size := by omega
      have hat := run_at s ((a : Int) + (k : Int)) (a + k) (by omega) hks
      have hx := HG.out.1 k (by omega)
      have hxb := byteAt_lt s.data.toList (a + k)
      generalize byteAt s.data.toList (a + k) = x at hat hx hxb
      go_wp2
      go_round
      case rel => exact ⟨k + 1, by omega, by go_num⟩
      case measure => simp [intOf]; omega
    · obtain rfl : k = c := by omega
      by_cases hend : k < s.size - a
      · have hks : a + k < s.size := by omega
        have hat := run_at s ((a : Int) + (k : Int)) (a + k) (by omega) hks
        have hx := HG.out.2 hend
        obtain ⟨x, hxx⟩ : ∃ x, x = byteAt s.data.toList (a + k) := ⟨_, rfl⟩
        have hlast : x = ((s.data.toList.drop a).getD k 0).toNat := by rw [hxx, drop_at]; rfl
        rw [← hxx] at hat hx
        have HX := Lib.hid (And.intro hxx hlast); clear hxx hlast
        have hlen : k < (s.data.toList.drop a).length := by rw [HDL.out.2]; exact hend
        have HLEN := Lib.hid hlen; clear hlen
        by_cases hf : 9 < k ∨ (k = 9 ∧ 1 < x) ∨ (0 < k ∧ x = 0)
        · have hform : 9 < cont (s.data.toList.drop a) ∨ (0 < cont (s.data.toList.drop a) ∧ ((s.data.toList.drop a).getD (cont (s.data.toList.drop a)) 0).toNat = 0) ∨ 2 ^ b ≤ val ((s.data.toList.drop a).take (cont (s.data.toList.drop a) + 1)) := by
            rcases hf with h | ⟨h, h'⟩ | ⟨h, h'⟩
            · left; rw [← HC.out]; exact h
            · right; right
              have h9 := ten_big (l := s.data.toList.drop a) (by rw [← HC.out]; exact h) (by have := HLEN.out; omega) (by have := HX.out.2; rw [h] at this; rw [← this]; exact h')
              exact Nat.le_trans (Nat.pow_le_pow_right (by omega) HB.out.1) h9
            · right; left; rw [← HC.out, ← HX.out.2]; exact ⟨h, h'⟩
          obtain ⟨e1, e2, e3⟩ := g_form (bits := b) (l := s.data.toList) (a := a) (by rw [HDL.out.1]; exact ha) (by rw [← HC.out]; exact HLEN.out) hform
          have HE := Lib.hid (And.intro e1 (And.intro e2 e3))
          clear e1 e2 e3 hform
          rcases hf with h | ⟨h, h'⟩ | ⟨h, h'⟩
          · go_wp2
            all_goals
              go_ret3
              exact ⟨by rw [HE.out.1, HE.out.2.1, HE.out.2.2]; rfl, rfl⟩
          · have hh1 : (9 : Nat) ≤ k := by omega
            have hh2 : k ≤ 9 := by omega
            have hke : ((k : Int) == 9) = true := by rw [beq_iff_eq]; omega
            clear h
            go_wp2
            all_goals
              go_ret3
              exact ⟨by rw [HE.out.1, HE.out.2.1, HE.out.2.2]; rfl, rfl⟩
          · by_cases h9 : 9 < k
            · go_wp2
              all_goals
                go_ret3
                exact ⟨by rw [HE.out.1, HE.out.2.1, HE.out.2.2]; rfl, rfl⟩
            · have hx1 : ((x : Int) == 0) = true := by rw [beq_iff_eq]; omega
              have hx2 : decide ((1 : Int) < (x : Int)) = false := decide_eq_false (by omega)
              have hx3 : decide ((9 : Int) < (k : Int)) = false := decide_eq_false (by omega)
              have hx4 : (x : Int) ≤ 1 := by omega
              clear h'
              rcases (by cases ((k : Int) == 9); exact .inr rfl; exact .inl rfl : ((k : Int) == 9) = true ∨ ((k : Int) == 9) = false) with hke | hke
              all_goals
                go_wp2
                all_goals
                  go_ret3
                  exact ⟨by rw [HE.out.1, HE.out.2.1, HE.out.2.2]; rfl, rfl⟩
        · have hk9 : k ≤ 9 := by omega
          have hsm := few_small (l := s.data.toList.drop a) (by rw [← HC.out]; exact hk9) (by rw [← HC.out]; exact HLEN.out) (fun h => by
            rw [← HC.out] at h; have := HX.out.2; rw [h] at this; rw [← this]; omega)
          rw [← HC.out] at hsm
          have HSM := Lib.hid hsm; clear hsm
          have hlt' : ((s.data.toList.drop a).take (k + 1)).length = k + 1 := by rw [List.length_take]; have := HLEN.out; omega
          have HLT := Lib.hid hlt'; clear hlt'
          have hnf : ¬ (9 < k) ∧ ¬ (k = 9 ∧ 1 < x) ∧ ¬ (0 < k ∧ x = 0) := by omega
          have HNF := Lib.hid hnf; clear hnf
          go_upto_region 8 with fail
          go_cut [67] (fun v wr => v = .bool false ∧ wr = w)
          case first =>
            have hx3 : decide ((9 : Int) < (k : Int)) = false := decide_eq_false (by omega)
            by_cases hk9' : k = 9
            · have hx1 := HNF.out.2.1
              have hke : ((k : Int) == 9) = true := by rw [beq_iff_eq]; omega
              have hxx : x ≤ 1 := by omega
              have hxd : decide ((1 : Int) < (x : Int)) = false := decide_eq_false (by omega)
              have hxz : ((x : Int) == 0) = false := by rw [beq_eq_false_iff_ne]; have := HNF.out.2.2; omega
              have hh1 : (9 : Nat) ≤ k := by omega
              clear hf hk9' hx1
              go_wp2
              all_goals
                go_meet
                exact ⟨rfl, rfl⟩
            · have hke : ((k : Int) == 9) = false := by rw [beq_eq_false_iff_ne]; omega
              rcases Nat.eq_zero_or_pos k with h0 | h0
              · have hh2 : (k : Int) ≤ 0 := by omega
                clear hf hk9' h0
                go_wp2
                all_goals
                  go_meet
                  exact ⟨rfl, rfl⟩
              · have hxz : ((x : Int) == 0) = false := by rw [beq_eq_false_iff_ne]; have := HNF.out.2.2; omega
                clear hf hk9'
                go_wp2
                all_goals
                  go_meet
                  exact ⟨rfl, rfl⟩
          case rest =>
            obtain ⟨rfl, rfl⟩ := hcut
            clear hf
            go_wp2
            go_loop [10, 11] (fun xv iv => ∃ j : Nat, j ≤ k + 1 ∧ iv = .int .i64 ((j : Int) - 1) ∧ xv = .int .u64 (val (((s.data.toList.drop a).take (k + 1)).drop j) : Nat)) (fun _ iv => (intOf iv + 1).toNat)
            case atStart => exact ⟨k + 1, Nat.le_refl _, by go_num, by rw [List.drop_of_length_le (by rw [HLT.out]; exact Nat.le_refl _)]; rfl⟩
            case round =>
              obtain ⟨j, hj, rfl, rfl⟩ := hrel
              by_cases hj0 : 0 < j
              · obtain ⟨i, rfl⟩ : ∃ i, j = i + 1 := ⟨j - 1, by omega⟩
                have hat2 := run_at s ((a : Int) + (i : Int)) (a + i) (by omega) (by omega)
                have hy := byteAt_lt s.data.toList (a + i)
                have hvd := val_drop ((s.data.toList.drop a).take (k + 1)) i (by rw [HLT.out]; omega)
                rw [part_take _ _ _ (by omega)] at hvd
                have hpt : VarMath.part (s.data.toList.drop a) i = byteAt s.data.toList (a + i) % 128 := by rw [drop_at]; rfl
                rw [hpt] at hvd
                have hle := val_drop_le ((s.data.toList.drop a).take (k + 1)) i
                have hpos : 0 < 128 ^ i := Nat.pow_pos (by omega)
                have hle2 : val (((s.data.toList.drop a).take (k + 1)).drop i) < 18446744073709551616 := by
                  have h1 : val (((s.data.toList.drop a).take (k + 1)).drop i) * 1 ≤ val (((s.data.toList.drop a).take (k + 1)).drop i) * 128 ^ i := Nat.mul_le_mul_left _ hpos
                  have := HSM.out
                  omega
                rw [hvd] at hle2
                have hp : byteAt s.data.toList (a + i) % 128 < 128 := Nat.mod_lt _ (by omega)
                have hor := or_shift hp hle2
                have hrem : ((byteAt s.data.toList (a + i) : Nat) : Int) % 128 = ((byteAt s.data.toList (a + i) % 128 : Nat) : Int) := by omega
                have HVD := Lib.hid hvd; clear hvd hle hpt hpos
                generalize byteAt s.data.toList (a + i) = y at *
                generalize val (((s.data.toList.drop a).take (k + 1)).drop (i + 1)) = v at *
                generalize hpp : y % 128 = p at *
                have HPP := Lib.hid hpp; clear hpp
                generalize v * 128 + p = v' at *
                have hji : ((i + 1 : Nat) : Int) - 1 = (i : Int) := by omega
                rw [hji]
                clear hji
                go_wp2
                go_round
                case rel => exact ⟨i, by omega, by go_num, by rw [HVD.out]⟩
                case measure => simp [intOf]
              · obtain rfl : j = 0 := by omega
                rw [List.drop_zero]
                rw [show (((0 : Nat) : Int) - 1) = -1 from rfl]
                have hgt : most < (val ((s.data.toList.drop a).take (k + 1)) : Int) ↔ 2 ^ b ≤ val ((s.data.toList.drop a).take (k + 1)) := by
                  rw [HB.out.2]; omega
                by_cases hbig : 2 ^ b ≤ val ((s.data.toList.drop a).take (k + 1))
                · obtain ⟨e1, e2, e3⟩ := g_form (bits := b) (l := s.data.toList) (a := a) (by rw [HDL.out.1]; exact ha) (by rw [← HC.out]; exact HLEN.out) (.inr (.inr (by rw [← HC.out]; exact hbig)))
                  have HE := Lib.hid (And.intro e1 (And.intro e2 e3))
                  have hgt' := hgt.2 hbig
                  clear e1 e2 e3 hgt hbig
                  go_wp2
                  go_ret3
                  exact ⟨by rw [HE.out.1, HE.out.2.1, HE.out.2.2]; rfl, rfl⟩
                · obtain ⟨e1, e2, e3⟩ := g_ok (bits := b) (l := s.data.toList) (a := a) (by rw [HDL.out.1]; exact ha) (by rw [← HC.out]; exact HLEN.out) (by
                    rw [← HC.out, ← HX.out.2]
                    have := HNF.out
                    rintro (h | h | h)
                    · exact this.1 h
                    · exact this.2.2 h
                    · exact hbig h)
                  rw [← HC.out] at e1 e2
                  have HE := Lib.hid (And.intro e1 (And.intro e2 e3))
                  have hgt' : (val ((s.data.toList.drop a).take (k + 1)) : Int) ≤ most := by
                    have := fun h => hbig (hgt.1 h); omega
                  clear e1 e2 e3 hgt hbig
                  have hres : gEnd b s.data.toList (a : Nat) = (a : Int) + (k : Int) + 1 := by rw [HE.out.2.1]; omega
                  have HR := Lib.hid hres; clear hres
                  go_wp2
                  go_ret3
                  refine ⟨?_, rfl⟩
                  rw [HE.out.1, HR.out, HE.out.2.2]; rfl
      · obtain ⟨e1, e2, e3⟩ := g_cut (bits := b) (l := s.data.toList) (a := a) (by rw [HDL.out.1]; exact ha) (by rw [← HC.out, HDL.out.2]; omega)
        have HE := Lib.hid (And.intro e1 (And.intro e2 e3))
        clear e1 e2 e3
        go_wp2
        go_ret3
        exact ⟨by rw [HE.out.1, HE.out.2.1, HE.out.2.2]; rfl, rfl⟩
end Go.Proofs.YtgmemdedpklnhaaGreat.Varint

/-
  'make([]T, n)' at bytes, numbers, values: n zero elements that the call owns; stores into them.
-/



namespace Go.Proofs.YtgmemdedpklnhaaGreat
open Go.RowKit ValMath Vals Sl
section
variable {w : World} {ops : Array Oper} {rest : List Oper} {o : Oper} {a : Act} {Q : Exit → Act → World → Prop}
theorem wpList_make_bytes (hg : o.guard = none) (l c : Operand) (hop : o.op = Op.makeSlice 54 l c) (base : Nat) (kl kc : IntKind) (L C : Int) (n : Nat) (hl : a.eval l = .int kl L) (hc : a.eval c = .int kc C) (hL : L = (n : Int)) (hC : C = (n : Int))
    (b2 : n ≤ 281474976710656) (b4 : base ≤ w.heap.size)
    (hK : ∀ w', OwnB w' base (.slice (some ⟨w.heap.size, 0, none⟩) n n) (List.replicate n 0) → w.grownBy w' none → w.heap.size < w'.heap.size → wpList Tryz.prog ops Q rest (a.put o.dst (.slice (some ⟨w.heap.size, 0, none⟩) n n)) w') :
    wpList Tryz.prog ops Q (o :: rest) a w := by
  obtain ⟨i0, hi, hz, hs, hb⟩ := info_parts info_u8
  refine wpList_make_full w hg l c _ hop base 5 i0 _ 1 Tryz.underlying54 hi hz hs kl kc L C n hl hc hL hC (by rw [hb]; omega) (by unfold maxLen; omega) b4 fun w' h1 h2 => hK w' ?_ h2 (h1.lt _ rfl).2
  unfold OwnB
  rw [List.length_replicate]
  have e : (madeCells (Value.int .u8 0).cells (n * 1)).toList = (List.replicate n (0 : UInt8)).map bv := by
    rw [show (Value.int .u8 0).cells = #[.int .u8 0] from rfl, toList_madeCells_one, Nat.mul_one, List.map_replicate]; rfl
  rw [← e]; exact h1
theorem wpList_make_ints (hg : o.guard = none) (l c : Operand) (hop : o.op = Op.makeSlice 108 l c) (base : Nat) (kl kc : IntKind) (L C : Int) (n : Nat) (hl : a.eval l = .int kl L) (hc : a.eval c = .int kc C) (hL : L = (n : Int)) (hC : C = (n : Int))
    (b2 : n ≤ 35184372088832) (b4 : base ≤ w.heap.size)
    (hK : ∀ w', OwnI w' base (.slice (some ⟨w.heap.size, 0, none⟩) n n) (List.replicate n 0) → w.grownBy w' none → w.heap.size < w'.heap.size → wpList Tryz.prog ops Q rest (a.put o.dst (.slice (some ⟨w.heap.size, 0, none⟩) n n)) w') :
    wpList Tryz.prog ops Q (o :: rest) a w := by
  obtain ⟨i0, hi, hz, hs, hb⟩ := info_parts info_int
  refine wpList_make_full w hg l c _ hop base 3 i0 _ 1 Tryz.underlying108 hi hz hs kl kc L C n hl hc hL hC (by rw [hb]; omega) (by unfold maxLen; omega) b4 fun w' h1 h2 => hK w' ?_ h2 (h1.lt _ rfl).2
  unfold OwnI
  rw [List.length_replicate]
  have e : (madeCells (Value.int .i64 0).cells (n * 1)).toList = icells (List.replicate n (0 : Int)) := by
    rw [show (Value.int .i64 0).cells = #[.int .i64 0] from rfl, toList_madeCells_one, Nat.mul_one]; unfold icells; rw [List.map_replicate]
  rw [← e]; exact h1
end
/-- A byte stored. -/
theorem own_put_byte {w : World} {B g n c : Nat} {ys : List UInt8} (h : OwnB w B (.slice (some ⟨g, 0, none⟩) n c) ys) (hl : ys.length = n) (k : Nat) (z : UInt8) :
    OwnB (w.setCell ⟨g, k, none⟩ (bv z)) B (.slice (some ⟨g, 0, none⟩) n c) (ys.set k z) := by
  unfold OwnB at h ⊢
  rw [hl] at h
  rw [List.length_set, hl, List.map_set]
  exact (World.ownsRow.stored h k (bv z)).1
theorem own_byte_at {w : World} {B g n c : Nat} {ys : List UInt8} (h : OwnB w B (.slice (some ⟨g, 0, none⟩) n c) ys) (hl : ys.length = n) (k : Nat) (hk : k < n) : w.cell? ⟨g, k, none⟩ = some (.int .u8 (byteAt ys k : Nat)) ∧ w.frozen? ⟨g, k, none⟩ = false := by
  unfold OwnB at h
  rw [hl] at h
  refine ⟨?_, World.ownsRow.frozenAt h k⟩
  rw [World.ownsRow.cellAt h k (by omega), List.getElem?_map, List.getElem?_eq_getElem (by omega), byteAt_get _ _ (by omega)]; rfl
theorem own_int_at {w : World} {B g n c : Nat} {ys : List Int} (h : OwnI w B (.slice (some ⟨g, 0, none⟩) n c) ys) (hl : ys.length = n) (k : Nat) (hk : k < n) : w.cell? ⟨g, k, none⟩ = some (.int .i64 (ys.getD k 0)) ∧ w.frozen? ⟨g, k, none⟩ = false := by
  unfold OwnI at h
  rw [hl] at h
  refine ⟨?_, World.ownsRow.frozenAt h k⟩
  rw [World.ownsRow.cellAt h k (by omega)]
  unfold icells
  rw [List.getElem?_map, List.getElem?_eq_getElem (by omega), List.getD_eq_getElem?_getD, List.getElem?_eq_getElem (by omega)]; rfl
end Go.Proofs.YtgmemdedpklnhaaGreat

/-
  THE WALK of boathouseref1.Pack.
-/



namespace Go.Proofs.YtgmemdedpklnhaaGreat.Bitpack
open Go.RowKit BitMath Sl

/-- What the loops of the document's Pack hold: t bits laid. -/
def LaidAt (w : Nat) (xs : List Int) (i k t : Nat) (l : List UInt8) : Prop :=
  t = w * i + k ∧ num l = all w (nats (xs.take i)) + (xs.getD i 0).toNat % 2 ^ k * 2 ^ (w * i) ∧ num l < 2 ^ t
theorem LaidAt.bit {w i k t : Nat} {xs : List Int} {l : List UInt8} (p : LaidAt w xs i k t l) (hl : t / 8 < l.length) (b : Nat) (hb : b = (xs.getD i 0).toNat / 2 ^ k % 2) :
    byteAt l (t / 8) ||| b * 2 ^ (t % 8) < 256 ∧ LaidAt w xs i (k + 1) (t + 1) (l.set (t / 8) (UInt8.ofNat (byteAt l (t / 8) ||| b * 2 ^ (t % 8)))) := by
  obtain ⟨h1, h2, h3⟩ := p
  obtain ⟨a1, a2, a3, a4⟩ := lay_bit (b := b) hl h3 (by omega)
  have e : byteAt l (t / 8) = (l.getD (t / 8) 0).toNat := rfl
  rw [e, a1]
  refine ⟨a2, by omega, ?_, by rw [a3]; exact a4⟩
  rw [a3, h2, bit_more, Nat.add_mul, ← hb, h1, Nat.pow_add]
  have : b * (2 ^ (w * i) * 2 ^ k) = b * 2 ^ k * 2 ^ (w * i) := by rw [Nat.mul_comm (2 ^ (w * i)), Nat.mul_assoc]
  omega
theorem LaidAt.next {w i t : Nat} {xs : List Int} {l : List UInt8} (p : LaidAt w xs i w t l) (hi : i < xs.length) (h0 : 0 ≤ xs[i]) (h1 : xs[i] < ((2 ^ w : Nat) : Int)) : LaidAt w xs (i + 1) 0 t l := by
  obtain ⟨e1, e2, e3⟩ := p
  have hg : xs.getD i 0 = xs[i] := by rw [List.getD_eq_getElem?_getD, List.getElem?_eq_getElem hi]; rfl
  refine ⟨by rw [Nat.mul_succ]; omega, ?_, e3⟩
  rw [e2, hg, Nat.mod_eq_of_lt (show xs[i].toNat < 2 ^ w by omega), List.take_succ_eq_append_getElem hi, nats_snoc, all_snoc, nats_length, List.length_take, Nat.min_eq_left (by omega), Nat.pow_zero, Nat.mod_one]
  omega
theorem LaidAt.zero (w : Nat) (xs : List Int) (n : Nat) : LaidAt w xs 0 0 0 (List.replicate n 0) := ⟨by omega, by rw [num_replicate]; simp [nats, all, Nat.mod_one], by rw [num_replicate]; simp⟩

theorem bit_store {y b tm : Nat} (hy : y < 256) (hb : b < 2) (ht : tm < 8) : bv (UInt8.ofNat (y ||| b * 2 ^ tm)) = .int .u8 (bits .or .u8 (y : Int) (wrap64 ((b : Int) * 2 ^ tm) % 256)) := by
  have h7 : 2 ^ tm ≤ 2 ^ 7 := Nat.pow_le_pow_right (by omega) (by omega)
  have h8 : b * 2 ^ tm ≤ 1 * 2 ^ 7 := Nat.mul_le_mul (by omega) h7
  have e : (b : Int) * 2 ^ tm = ((b * 2 ^ tm : Nat) : Int) := by push_cast; rfl
  have e2 : wrap64 ((b : Int) * 2 ^ tm) % 256 = ((b * 2 ^ tm : Nat) : Int) := by rw [e]; unfold wrap64; omega
  have hlt : y ||| b * 2 ^ tm < 2 ^ 8 := Nat.or_lt_two_pow (by omega) (by omega)
  rw [e2, or_u8 _ _ hy (by omega)]
  unfold bv; rw [UInt8.toNat_ofNat', Nat.mod_eq_of_lt (by omega)]
set_option maxRecDepth 100000 in
set_option maxHeartbeats 8000000 in
theorem refPack_any (A : Option Addr) (n c : Nat) (xs : List Int) (width : Int) (w : World) (hx : ISl w A n xs) (hn : n ≤ 17592186044416) (hf : ∀ x ∈ xs, x < 9223372036854775808) :
    Calls Tryz.prog 68 #[.slice A n c, .int .i64 width] w fun e w' => e = .returned (.tuple #[.string (str (packS xs width)), .int .i64 (packE xs width)]) ∧ Below w.heap.size w w' := by
  by_cases hw : wide width
  · obtain ⟨e1, e2⟩ := pack_wide (xs := xs) hw
    rw [e1, e2]
    unfold wide at hw
    clear e1 e2
    go_enter Tryz.func68, Tryz.ntmps68
    by_cases h0 : width < 0
    · go_wp2
      go_ret2
      exact ⟨rfl, Below.refl _ _⟩
    · have h1 : 16 < width := by omega
      go_wp2
      go_ret2
      exact ⟨rfl, Below.refl _ _⟩
  obtain ⟨wd, rfl⟩ : ∃ wd : Nat, width = (wd : Nat) := ⟨width.toNat, by unfold wide at hw; omega⟩
  have hw16 : wd ≤ 16 := by unfold wide at hw; omega
  clear hw
  have hxl := hx.1
  obtain ⟨R, hR⟩ : ∃ R, R = packS xs (wd : Nat) := ⟨_, rfl⟩
  obtain ⟨E, hE⟩ : ∃ E, E = packE xs (wd : Nat) := ⟨_, rfl⟩
  rw [← hR, ← hE]
  have HRE := Lib.hid (And.intro hR hE); clear hR hE
  have HX := Lib.hid hx; clear hx
  have HF := Lib.hid hf; clear hf
  have HXL := Lib.hid hxl; clear hxl
  obtain ⟨P, hP⟩ : ∃ P, P = n * wd := ⟨_, rfl⟩
  have hPl : P ≤ n * 16 := by rw [hP]; exact Nat.mul_le_mul_left _ hw16
  have hPI : (n : Int) * (wd : Int) = (P : Int) := by rw [hP]; push_cast; rfl
  have HP := Lib.hid hP; clear hP
  obtain ⟨N, hN⟩ : ∃ N, N = (P + 7) / 8 := ⟨_, rfl⟩
  have hNI : ((P : Int) + 7) / 8 = (N : Int) := by omega
  have hNl : N ≤ 281474976710656 := by omega
  have HN := Lib.hid hN; clear hN
  go_enter Tryz.func68, Tryz.ntmps68
  go_wp2_with (first
    | (at_make; refine wpList_make_bytes rfl _ _ rfl w.heap.size .i64 .i64 _ _ N rfl rfl (by first | rfl | omega) (by first | rfl | omega) hNl (Nat.le_refl _) ?_; intro w1 hO1 hg1 hsz1))
  have hb1 : Below w.heap.size w w1 := (Below.refl _ _).grown hg1 (Nat.le_refl _) (fun j hj => by cases hj)
  go_loopw [7] (fun iv wr => ∃ (i t : Nat) (l : List UInt8), i ≤ n ∧ iv = .int .i64 i ∧ l.length = N ∧ Hid (LaidAt wd xs i 0 t l ∧ fit wd (xs.take i)) ∧ OwnB wr w.heap.size (.slice (some ⟨w.heap.size, 0, none⟩) N N) l ∧ Below w.heap.size w wr) (fun iv _ => n - (intOf iv).toNat)
  case atStart => exact ⟨0, 0, List.replicate N 0, by omega, rfl, by simp, Lib.hid ⟨LaidAt.zero _ _ _, fun x hx => by simp at hx⟩, hO1, hb1⟩
  case round =>
    obtain ⟨i, t, l, hi, rfl, hll, hp, hO, hb⟩ := hrel
    have HO := Lib.hid hO; clear hO
    by_cases hin : i < n
    · obtain ⟨g, off, x, hxk, hA, hg, hcell⟩ := HX.out.at_ (k := i) hin
      subst hA
      have hcw := (hb.cell (p := ⟨g, off + i, none⟩) hg).trans hcell
      have hkl : i < xs.length := by rw [HXL.out]; exact hin
      have hxe : xs[i] = x := by rw [List.getElem?_eq_getElem hkl] at hxk; injection hxk
      have hxg : xs.getD i 0 = x := by rw [List.getD_eq_getElem?_getD, hxk]; rfl
      have hts : xs.take (i + 1) = xs.take i ++ [x] := Vals.take_more hxk
      have hx64 := HF.out x (List.mem_of_getElem? hxk)
      by_cases h0 : x < 0
      · obtain ⟨e1, e2⟩ := pack_not hw16 (not_fit_at (w := wd) hkl (.inl (by rw [hxe]; exact h0)))
        have HE := Lib.hid (And.intro e1 e2); clear e1 e2 hts hxe hxk hxg
        go_wp2
        go_ret2
        exact ⟨by rw [HRE.out.1, HRE.out.2, HE.out.1, HE.out.2]; rfl, hb⟩
      have hW := Lib.hid (fun w => refWidth_any x w hx64)
      have hwl := width_le (most := x) (w := wd) hx64
      clear hx64
      generalize width x = wx at *
      by_cases hz : wx ≤ wd
      · have hX := hwl.1 hz
        obtain ⟨X, rfl⟩ : ∃ X : Nat, x = (X : Nat) := ⟨x.toNat, by omega⟩
        have HXW := Lib.hid (And.intro hX hts); clear hX hwl hts hxk
        have HCELL := Lib.hid hcell; clear hcell
        obtain ⟨Q, hQ⟩ : ∃ Q, Q = i * wd := ⟨_, rfl⟩
        have hQI : (i : Int) * (wd : Int) = (Q : Int) := by rw [hQ]; push_cast; rfl
        have hQP : Q + wd ≤ P := by rw [hQ, HP.out, ← Nat.succ_mul]; exact Nat.mul_le_mul_right _ hin
        have HQ := Lib.hid hQ; clear hQ
        go_wp2_with (go_at_call 99; with_reducible refine (hW.out _).mono ?_; rintro e w' ⟨rfl, rfl⟩)
        go_loopw [8] (fun kv w2 => ∃ (k t : Nat) (l : List UInt8), k ≤ wd ∧ kv = .int .i64 k ∧ l.length = N ∧ Hid (LaidAt wd xs i k t l) ∧ OwnB w2 w.heap.size (.slice (some ⟨w.heap.size, 0, none⟩) N N) l ∧ Below w.heap.size w w2) (fun kv _ => wd - (intOf kv).toNat)
        case atStart => exact ⟨0, t, l, by omega, rfl, hll, Lib.hid hp.out.1, HO.out, hb⟩
        case round =>
          obtain ⟨k, t, l, hk, rfl, hll, hp', hO, hb⟩ := hrel
          by_cases hkw : k < wd
          · have ht1 := hp'.out.1
            rw [Nat.mul_comm, ← HQ.out] at ht1
            have htN : t / 8 < N := by have := HN.out; omega
            have hti : (Q : Int) + (k : Int) = (t : Int) := by omega
            have ht1' := Lib.hid ht1; clear ht1
            obtain ⟨b, hbb⟩ : ∃ b, b = X / 2 ^ k % 2 := ⟨_, rfl⟩
            have hbl : b < 2 := by omega
            obtain ⟨hlt, hla⟩ := hp'.out.bit (by rw [hll]; exact htN) b (by rw [hxg]; exact hbb)
            obtain ⟨hcb, hfb⟩ := own_byte_at hO hll (t / 8) htN
            have hby := byteAt_lt l (t / 8)
            have hcw2 := (hb.cell (p := ⟨g, off + i, none⟩) hg).trans HCELL.out
            have hand : bits .and .i64 ((X : Int) / 2 ^ k) 1 = (b : Int) := by
              rw [and1_i64, hbb]
              have : ((X : Int) / 2 ^ k) = ((X / 2 ^ k : Nat) : Int) := by push_cast; rfl
              rw [this]; omega
            have HB := Lib.hid hbb; clear hbb
            have h8 : t % 8 < 8 := Nat.mod_lt _ (by omega)
            have hst := bit_store (y := byteAt l (t / 8)) (b := b) (tm := t % 8) hby hbl h8
            have HLA := Lib.hid hla; clear hla
            have HO2 := Lib.hid hO; clear hO
            have htI : (t : Int) / 8 = ((t / 8 : Nat) : Int) := by omega
            have htM : (t : Int) % 8 = ((t % 8 : Nat) : Int) := by omega
            generalize byteAt l (t / 8) = y at *
            generalize hq8 : t / 8 = t8 at *
            generalize hm8 : t % 8 = tm at *
            have HQ8 := Lib.hid (And.intro hq8 hm8); clear hq8 hm8
            have HST := Lib.hid hst; clear hst
            go_wp2
            go_region
            go_wp2
            go_roundw
            case rel =>
              have HO3 := own_put_byte HO2.out hll t8 (UInt8.ofNat (y ||| b * 2 ^ tm))
              rw [HST.out] at HO3
              exact ⟨k + 1, t + 1, _, by omega, by go_num, by rw [List.length_set]; exact hll, Lib.hid HLA.out, HO3.drew, (hb.setCell (p := ⟨w.heap.size, t8, none⟩) (Nat.le_refl _) _).drew⟩
            case measure => simp [intOf]; omega
          · obtain rfl : k = wd := by omega
            have hnx := hp'.out.next hkl (by rw [hxe]; exact h0) (by rw [hxe]; exact HXW.out.1)
            have hft : fit k (xs.take (i + 1)) := by rw [HXW.out.2]; exact fit_snoc hp.out.2 h0 HXW.out.1
            have HNX := Lib.hid (And.intro hnx hft); clear hnx hft
            go_wp2
            go_roundw
            case rel => exact ⟨i + 1, t, l, by omega, by go_num, hll, HNX, hO, hb⟩
            case measure => simp [intOf]; omega
      · obtain ⟨e1, e2⟩ := pack_not hw16 (not_fit_at (w := wd) hkl (.inr (by rw [hxe]; exact Int.not_lt.1 (fun h => hz (hwl.2 h)))))
        have HE := Lib.hid (And.intro e1 e2); clear e1 e2 hts hxe hxk hxg hwl
        have hzI : (wd : Int) < (wx : Int) := by omega
        go_wp2_with (go_at_call 99; with_reducible refine (hW.out _).mono ?_; rintro e w' ⟨rfl, rfl⟩)
        go_ret2
        exact ⟨by rw [HRE.out.1, HRE.out.2, HE.out.1, HE.out.2]; rfl, hb⟩
    · obtain rfl : i = n := by omega
      have hxt : xs.take i = xs := List.take_of_length_le (by rw [HXL.out]; exact Nat.le_refl _)
      obtain ⟨⟨h1, h2, h3⟩, h4⟩ := hp.out
      rw [hxt] at h2 h4
      obtain ⟨e1, e2⟩ := pack_fit hw16 h4
      have hlp : l = packed wd (nats xs) := by
        unfold packed
        refine bytes_of_num (by rw [hll, HN.out, HP.out, nats_length, HXL.out, Nat.mul_comm]) ?_
        rw [h2, Nat.pow_zero, Nat.mod_one]; omega
      have HE := Lib.hid (And.intro e1 (And.intro e2 hlp)); clear e1 e2 hlp h1 h2 h3 h4 hp hxt
      go_wp2_with (first
        | (refine wpList_own_string rfl _ _ 5 _ rfl _ rfl w.heap.size l HO.out Tryz.underlying54 Tryz.underlying5 Tryz.underlying9 ?_))
      go_ret2
      exact ⟨by rw [HRE.out.1, HRE.out.2, HE.out.1, HE.out.2.1, ← HE.out.2.2]; rfl, hb⟩
end Go.Proofs.YtgmemdedpklnhaaGreat.Bitpack
