/-
  Lemmas of this claim, text behind text: VarRef2, VecRd, VecRd2, BitProg3, BitRef2, VecRd3, VecRd4, VecRd5, VecRd6, VecRd7, VecGet, VecFine. Each states its own conditions.
-/
import Derived.Test.YtgmemdedpklnhaaGreatPart02
import Derived.Test.YtgmemdedpklnhaaGreatPart04
import Derived.Test.YtgmemdedpklnhaaGreatPart06
import Derived.Test.YtgmemdedpklnhaaGreatPart09
import Derived.Test.YtgmemdedpklnhaaGreatPart12

/-
  THE WALKS of boathouseref1.Unvarint and Zag.
-/

namespace Go.Proofs.YtgmemdedpklnhaaGreat.Varint
open Go.RowKit VarMath
set_option maxRecDepth 100000 in
set_option maxHeartbeats 1000000 in
theorem Unvarint_any (s : ByteArray) (at_ : Int) (w : World) (hs : s.size ≤ maxReach) (h1 : -9223372036854775808 ≤ at_) (h2 : at_ < 9223372036854775808) :
    Calls Tryz.prog 78 #[.string s, .int .i64 at_] w fun e w' => e = .returned (.tuple #[.int .i64 (gNum 63 s.data.toList at_ : Nat), .int .i64 (gEnd 63 s.data.toList at_), .int .i64 (gCode 63 s.data.toList at_)]) ∧ w = w' := by
  have H := fun w => refGet_any s at_ 63 w hs h1 h2 9223372036854775807 (by omega) (by decide)
  have hx := gNum_63 s.data.toList at_
  generalize gNum 63 s.data.toList at_ = x at H hx ⊢
  generalize gEnd 63 s.data.toList at_ = n at H ⊢
  generalize gCode 63 s.data.toList at_ = c at H ⊢
  have HH := Lib.hid H; clear H
  clear hs h1 h2
  go_enter Tryz.func78, Tryz.ntmps78
  go_wp2_with (go_at_call 108; with_reducible refine (HH.out _).mono ?_; rintro e w1 ⟨rfl, rfl⟩)
  go_ret3
  exact ⟨rfl, rfl⟩
set_option maxRecDepth 100000 in
set_option maxHeartbeats 1000000 in
theorem refZag_any (s : ByteArray) (at_ : Int) (w : World) (hs : s.size ≤ maxReach) (h1 : -9223372036854775808 ≤ at_) (h2 : at_ < 9223372036854775808) :
    Calls Tryz.prog 118 #[.string s, .int .i64 at_] w fun e w' => e = .returned (.tuple #[.int .i64 (zag (gNum 64 s.data.toList at_)), .int .i64 (gEnd 64 s.data.toList at_), .int .i64 (gCode 64 s.data.toList at_)]) ∧ w = w' := by
  have H := fun w => refGet_any s at_ 64 w hs h1 h2 18446744073709551615 (by omega) (by decide)
  have hx := gNum_64 s.data.toList at_
  generalize gNum 64 s.data.toList at_ = x at H hx ⊢
  generalize gEnd 64 s.data.toList at_ = n at H ⊢
  generalize gCode 64 s.data.toList at_ = c at H ⊢
  have HH := Lib.hid H; clear H
  clear hs h1 h2
  have hz : zag x = if x % 2 = 1 then -((x : Int) / 2) - 1 else (x : Int) / 2 := by unfold zag; split <;> omega
  by_cases hq : x % 2 = 1
  · rw [if_pos hq] at hz
    rw [hz]
    have hq2 : (x : Int) % 2 = 1 := by omega
    clear hz hq
    go_enter Tryz.func118, Tryz.ntmps118
    go_wp2_with (go_at_call 108; with_reducible refine (HH.out _).mono ?_; rintro e w1 ⟨rfl, rfl⟩)
    go_ret3
    exact ⟨rfl, rfl⟩
  · rw [if_neg hq] at hz
    rw [hz]
    have hq2 : (x : Int) % 2 = 0 := by omega
    clear hz hq
    go_enter Tryz.func118, Tryz.ntmps118
    go_wp2_with (go_at_call 108; with_reducible refine (HH.out _).mono ?_; rintro e w1 ⟨rfl, rfl⟩)
    go_ret3
    exact ⟨rfl, rfl⟩

end Go.Proofs.YtgmemdedpklnhaaGreat.Varint

/-
  THE WALKS of the two readers, the small ones: Bytes, Byte, Count; bytes, num.
-/


namespace Go.Proofs.YtgmemdedpklnhaaGreat.Vec
open Go.RowKit ValMath Vals Sl VecMath Words

/-- A reader in a block of its own. -/
def Rdr (T : TypeId) (w : World) (g : Nat) (r : Rd) : Prop := w.heap[g]? = some (.cells #[.string (str r.s), .int .i64 (r.at_ : Nat), .bool r.bad] T (0, 0))
def OkR (r : Rd) : Prop := r.at_ ≤ r.s.length ∧ r.s.length ≤ maxReach
section
variable {T : TypeId} {w w' : World} {g : Nat} {r : Rd}
theorem Rdr.lt (h : Rdr T w g r) : g < w.heap.size := (Array.getElem?_eq_some_iff.1 h).1
theorem Rdr.below (h : Rdr T w g r) (hb : Below w.heap.size w w') : Rdr T w' g r := (hb.block g h.lt).trans h
theorem Rdr.grown {row : Option Nat} (h : Rdr T w g r) (hb : w.grownBy w' row) (hr : some g ≠ row) : Rdr T w' g r := (hb.block g h.lt hr).trans h
theorem Rdr.alloc (h : Rdr T w g r) (o : Obj) : Rdr T (w.alloc o) g r := h.below (Vals.one_new o)
theorem Rdr.drewN (h : Rdr T w g r) (k : Nat) : Rdr T (w.drewN k) g r := h
theorem Rdr.drew (h : Rdr T w g r) : Rdr T w.drew g r := h
theorem Rdr.cells (h : Rdr T w g r) : w.cell? ⟨g, 0, none⟩ = some (.string (str r.s)) ∧ w.cell? ⟨g, 1, none⟩ = some (.int .i64 (r.at_ : Nat)) ∧ w.cell? ⟨g, 2, none⟩ = some (.bool r.bad) := by
  refine ⟨?_, ?_, ?_⟩ <;> rw [Lib.cell_of_heap h] <;> rfl
theorem Rdr.free (h : Rdr T w g r) (j : Nat) : w.frozen? ⟨g, j, none⟩ = false := Lib.frozen_of_heap h j
theorem Rdr.fail (h : Rdr T w g r) : Rdr T (w.setCell ⟨g, 2, none⟩ (.bool true)) g r.fail := set_heap h
theorem Rdr.move (h : Rdr T w g r) (k : Nat) : Rdr T (w.setCell ⟨g, 1, none⟩ (.int .i64 ((r.at_ + k : Nat) : Int))) g (r.step k) := set_heap h
end
theorem grown_drewN (w : World) (k : Nat) (row : Option Nat) : w.grownBy (w.drewN k) row := World.grownBy.but (MapV.grown_of_below (below_drewN (Below.refl _ _) k)) row
theorem grown_one (w : World) (g j : Nat) (x : Value) : w.grownBy (w.setCell ⟨g, j, none⟩ x) (some g) := Mem.grown_set w g j x (n := 0) (c := 0)
theorem grown_then {a b c : World} {g : Nat} (h : a.grownBy b (some g)) (k : b.grownBy c (some g)) : a.grownBy c (some g) := h.andThen k (fun _ hj => .inr hj)
theorem str_cut (l : List UInt8) (a n : Nat) : (str l).extract a (a + n) = str ((l.drop a).take n) := by
  apply str_eq; simp [str, ByteArray.extract, ByteArray.copySlice]
theorem rdBytes_bad {n : Nat} {r : Rd} (h : r.bad = true) : rdBytes n r = ([], r.fail) := by unfold rdBytes; rw [if_pos (.inl h)]
theorem rdBytes_short {n : Nat} {r : Rd} (h : r.s.length < r.at_ + n) : rdBytes n r = ([], r.fail) := by unfold rdBytes; rw [if_pos (.inr h)]
theorem rdBytes_good {n : Nat} {r : Rd} (h1 : r.bad = false) (h2 : ¬ r.s.length < r.at_ + n) : rdBytes n r = (r.rest.take n, r.step n) := by unfold rdBytes; rw [if_neg (by rw [h1]; simp; omega)]
theorem OkR.fail {r : Rd} (h : OkR r) : OkR r.fail := h
theorem rdBytes_okR {n : Nat} {r : Rd} (h : OkR r) : OkR (rdBytes n r).2 := by
  unfold rdBytes
  split
  · exact h
  · rename_i h2
    simp only [not_or] at h2
    exact ⟨by show r.at_ + n ≤ r.s.length; omega, h.2⟩

set_option maxRecDepth 20000 in
set_option maxHeartbeats 4000000 in
theorem bytes_any (g n : Nat) (r : Rd) (w : World) (h : Rdr 88 w g r) (ok : OkR r) (hn : n < 4611686018427387904) :
    Calls Tryz.prog 46 #[.pointer (some ⟨g, 0, none⟩), .int .i64 (n : Nat)] w fun e w' => e = .returned (.string (str (rdBytes n r).1)) ∧ Rdr 88 w' g (rdBytes n r).2 ∧ w.grownBy w' (some g) := by
  have hr1 := ok.1
  have hr2 := ok.2
  unfold maxReach at hr2
  have hzl : (str r.s).size = r.s.length := str_size _
  have H := Lib.hid h
  have hc := h.cells
  have f1 := h.free 1
  have f2 := h.free 2
  clear h
  cases hb : r.bad with
  | true =>
    have hR := rdBytes_bad (n := n) hb
    have HR := Lib.hid hR; clear hR
    rw [hb] at hc
    obtain ⟨z0, z1, z2⟩ := hc
    go_enter Tryz.func46, Tryz.ntmps46
    go_wp2
    go_quiet (fail)
    go_wp2
    go_ret
    rw [HR.out]
    exact ⟨rfl, (H.out.drewN nq).fail, grown_then (grown_drewN w nq _) (grown_one _ _ _ _)⟩
  | false =>
    rw [hb] at hc
    by_cases hs : r.s.length < r.at_ + n
    · have hR := rdBytes_short (n := n) hs
      have HR := Lib.hid hR; clear hR
      obtain ⟨z0, z1, z2⟩ := hc
      have hw1 : IntKind.i64.wrap (((str r.s).size : Int) - (r.at_ : Int)) = (r.s.length : Int) - (r.at_ : Int) := by rw [hzl]; exact IntWalk.i64_in _ (by omega)
      have hd1 : decide ((n : Int) < 0) = false := decide_eq_false (by omega)
      have hd2 : decide ((r.s.length : Int) - (r.at_ : Int) < (n : Int)) = true := decide_eq_true (by omega)
      clear hzl
      go_enter Tryz.func46, Tryz.ntmps46
      go_wp2
      go_quiet (fail)
      go_wp2
      go_ret
      rw [HR.out]
      exact ⟨rfl, (H.out.drewN nq).fail, grown_then (grown_drewN w nq _) (grown_one _ _ _ _)⟩
    · have hR := rdBytes_good (n := n) hb hs
      have HR := Lib.hid hR; clear hR
      obtain ⟨z0, z1, z2⟩ := hc
      have hw1 : IntKind.i64.wrap (((str r.s).size : Int) - (r.at_ : Int)) = (r.s.length : Int) - (r.at_ : Int) := by rw [hzl]; exact IntWalk.i64_in _ (by omega)
      have hw2 : IntKind.i64.wrap ((r.at_ : Int) + (n : Int)) = ((r.at_ + n : Nat) : Int) := by rw [IntWalk.i64_in _ (by omega)]; push_cast; rfl
      have hw3 : IntKind.i64.wrap (((r.at_ + n : Nat) : Int) - (n : Int)) = (r.at_ : Int) := by rw [IntWalk.i64_in _ (by push_cast; omega)]; push_cast; omega
      have hd1 : decide ((n : Int) < 0) = false := decide_eq_false (by omega)
      have hd2 : decide ((r.s.length : Int) - (r.at_ : Int) < (n : Int)) = false := decide_eq_false (by omega)
      have hex := str_cut r.s r.at_ n
      have hi1 : (r.at_ : Int) ≤ ((r.at_ + n : Nat) : Int) := by push_cast; omega
      have hi2 : ((r.at_ + n : Nat) : Int) ≤ ((str r.s).size : Int) := by rw [hzl]; omega
      have hi3 : (0 : Int) ≤ (r.at_ : Int) := by omega
      go_enter Tryz.func46, Tryz.ntmps46
      go_wp2
      go_quiet (fail)
      go_wp2
      go_quiet (fail)
      go_wp2
      go_ret
      rw [HR.out]
      exact ⟨ret_str hex, ((H.out.drewN _).move n).drewN _, grown_then (grown_then (grown_drewN _ _ _) (grown_one _ _ _ _)) (grown_drewN _ _ _)⟩
set_option maxRecDepth 20000 in
set_option maxHeartbeats 4000000 in
theorem tbytes_any (g n : Nat) (r : Rd) (w : World) (h : Rdr 96 w g r) (ok : OkR r) (hn : n < 4611686018427387904) :
    Calls Tryz.prog 48 #[.pointer (some ⟨g, 0, none⟩), .int .i64 (n : Nat)] w fun e w' => e = .returned (.string (str (rdBytes n r).1)) ∧ Rdr 96 w' g (rdBytes n r).2 ∧ w.grownBy w' (some g) := by
  have hr1 := ok.1
  have hr2 := ok.2
  unfold maxReach at hr2
  have hzl : (str r.s).size = r.s.length := str_size _
  have H := Lib.hid h
  have hc := h.cells
  have f1 := h.free 1
  have f2 := h.free 2
  clear h
  cases hb : r.bad with
  | true =>
    have hR := rdBytes_bad (n := n) hb
    have HR := Lib.hid hR; clear hR
    rw [hb] at hc
    obtain ⟨z0, z1, z2⟩ := hc
    go_enter Tryz.func48, Tryz.ntmps48
    go_wp2
    go_quiet (fail)
    go_wp2
    go_ret
    rw [HR.out]
    exact ⟨rfl, (H.out.drewN nq).fail, grown_then (grown_drewN w nq _) (grown_one _ _ _ _)⟩
  | false =>
    rw [hb] at hc
    by_cases hs : r.s.length < r.at_ + n
    · have hR := rdBytes_short (n := n) hs
      have HR := Lib.hid hR; clear hR
      obtain ⟨z0, z1, z2⟩ := hc
      have hw1 : IntKind.i64.wrap (((str r.s).size : Int) - (r.at_ : Int)) = (r.s.length : Int) - (r.at_ : Int) := by rw [hzl]; exact IntWalk.i64_in _ (by omega)
      have hd1 : decide ((n : Int) < 0) = false := decide_eq_false (by omega)
      have hd2 : decide ((r.s.length : Int) - (r.at_ : Int) < (n : Int)) = true := decide_eq_true (by omega)
      clear hzl
      go_enter Tryz.func48, Tryz.ntmps48
      go_wp2
      go_quiet (fail)
      go_wp2
      go_ret
      rw [HR.out]
      exact ⟨rfl, (H.out.drewN nq).fail, grown_then (grown_drewN w nq _) (grown_one _ _ _ _)⟩
    · have hR := rdBytes_good (n := n) hb hs
      have HR := Lib.hid hR; clear hR
      obtain ⟨z0, z1, z2⟩ := hc
      have hw1 : IntKind.i64.wrap (((str r.s).size : Int) - (r.at_ : Int)) = (r.s.length : Int) - (r.at_ : Int) := by rw [hzl]; exact IntWalk.i64_in _ (by omega)
      have hw2 : IntKind.i64.wrap ((r.at_ : Int) + (n : Int)) = ((r.at_ + n : Nat) : Int) := by rw [IntWalk.i64_in _ (by omega)]; push_cast; rfl
      have hw3 : IntKind.i64.wrap (((r.at_ + n : Nat) : Int) - (n : Int)) = (r.at_ : Int) := by rw [IntWalk.i64_in _ (by push_cast; omega)]; push_cast; omega
      have hd1 : decide ((n : Int) < 0) = false := decide_eq_false (by omega)
      have hd2 : decide ((r.s.length : Int) - (r.at_ : Int) < (n : Int)) = false := decide_eq_false (by omega)
      have hex := str_cut r.s r.at_ n
      have hi1 : (r.at_ : Int) ≤ ((r.at_ + n : Nat) : Int) := by push_cast; omega
      have hi2 : ((r.at_ + n : Nat) : Int) ≤ ((str r.s).size : Int) := by rw [hzl]; omega
      have hi3 : (0 : Int) ≤ (r.at_ : Int) := by omega
      go_enter Tryz.func48, Tryz.ntmps48
      go_wp2
      go_quiet (fail)
      go_wp2
      go_quiet (fail)
      go_wp2
      go_ret
      rw [HR.out]
      exact ⟨ret_str hex, ((H.out.drewN _).move n).drewN _, grown_then (grown_then (grown_drewN _ _ _) (grown_one _ _ _ _)) (grown_drewN _ _ _)⟩

/-! ### Counts -/
theorem get_used {b : Nat} {l : List UInt8} (_h : (VarMath.get b l).2.2 = 0) : (VarMath.get b l).2.1 ≤ l.length := by
  unfold VarMath.get at _h ⊢
  split
  · simp
  · split
    · simp
    · rename_i h1 _
      simp only []
      omega
theorem get_bad {b : Nat} {l : List UInt8} (h : (VarMath.get b l).2.2 ≠ 0) : (VarMath.get b l).2.2 = 1 ∨ (VarMath.get b l).2.2 = 2 := by
  unfold VarMath.get at h ⊢
  split
  · simp
  · split
    · simp
    · rename_i h1 h2
      rw [if_neg h1, if_neg h2] at h
      exact absurd rfl h
theorem g_rd {b : Nat} {r : Rd} (ok : OkR r) : VarMath.gNum b (str r.s).data.toList (r.at_ : Nat) = (VarMath.get b r.rest).1 ∧
    VarMath.gEnd b (str r.s).data.toList (r.at_ : Nat) = (if (VarMath.get b r.rest).2.2 = 0 then (r.at_ : Int) + ((VarMath.get b r.rest).2.1 : Nat) else 0) ∧
    VarMath.gCode b (str r.s).data.toList (r.at_ : Nat) = (if (VarMath.get b r.rest).2.2 = 0 then 0 else if (VarMath.get b r.rest).2.2 = 1 then 500 else 501) := by
  have h1 := ok.1
  rw [str_list]
  unfold VarMath.gNum VarMath.gEnd VarMath.gCode Rd.rest
  have h2 : ¬ ((r.at_ : Int) < 0 ∨ ((r.s.length : Nat) : Int) < (r.at_ : Int)) := by omega
  rw [if_neg h2, if_neg h2, if_neg h2, Int.toNat_natCast]
  exact ⟨rfl, rfl, rfl⟩
theorem rdNum_okR {m : Nat} {r : Rd} (h : OkR r) : OkR (rdNum m r).2 := by
  unfold rdNum
  split
  · exact h
  · rename_i h2
    simp only [not_or] at h2
    have h3 := get_used (b := 63) (l := r.rest) (by omega)
    have h1 := h.1
    have h4 : r.rest.length = r.s.length - r.at_ := by unfold Rd.rest; rw [List.length_drop]
    exact ⟨by show r.at_ + _ ≤ r.s.length; omega, h.2⟩
set_option maxRecDepth 20000 in
set_option maxHeartbeats 4000000 in
theorem num_any (g m : Nat) (r : Rd) (w : World) (h : Rdr 88 w g r) (ok : OkR r) :
    Calls Tryz.prog 43 #[.pointer (some ⟨g, 0, none⟩), .int .i64 (m : Nat)] w fun e w' => e = .returned (.int .i64 ((rdNum m r).1 : Nat)) ∧ Rdr 88 w' g (rdNum m r).2 ∧ w.grownBy w' (some g) := by
  have hr1 := ok.1
  have hr2 := ok.2
  unfold maxReach at hr2
  have hG := fun w => Varint.Get_any (str r.s) (r.at_ : Nat) w (by rw [str_size]; exact ok.2) (by omega) (by omega)
  obtain ⟨e1, e2, e3⟩ := g_rd (b := 63) ok
  rw [e1, e2, e3] at hG
  clear e1 e2 e3
  have hrn : rdNum m r = if r.bad = true ∨ (VarMath.get 63 r.rest).2.2 ≠ 0 ∨ m < (VarMath.get 63 r.rest).1 then (0, r.fail) else ((VarMath.get 63 r.rest).1, r.step (VarMath.get 63 r.rest).2.1) := rfl
  have hgb := get_bad (b := 63) (l := r.rest)
  generalize VarMath.get 63 r.rest = X at *
  obtain ⟨x, u, cd⟩ := X
  simp only [] at hG hrn hgb
  have HN := Lib.hid hrn; clear hrn
  have H := Lib.hid h
  obtain ⟨z0, z1, z2⟩ := h.cells
  have f1 := h.free 1
  have f2 := h.free 2
  clear h
  by_cases hb : r.bad = true
  · have hR : rdNum m r = (0, r.fail) := by rw [HN.out, if_pos (.inl hb)]
    have HR := Lib.hid hR; clear hR HN
    rw [hb] at z2
    generalize (if cd = 0 then (r.at_ : Int) + (u : Nat) else 0) = En at hG
    generalize (if cd = 0 then (0 : Int) else if cd = 1 then 500 else 501) = Co at hG
    have HG := Lib.hid hG; clear hG
    go_enter Tryz.func43, Tryz.ntmps43
    go_wp2
    go_region_held3 (fun w' => w'.cell? ⟨g, 0, none⟩ = some (.string (str r.s)) ∧ w'.cell? ⟨g, 1, none⟩ = some (.int .i64 (r.at_ : Nat)))
      (go_keep)
      ((first | (go_at_call 75; with_reducible refine (HG.out _).mono ?_; rintro e w' ⟨rfl, rfl⟩)))
    all_goals
      go_wp2
      go_ret
      rw [HR.out]
      exact ⟨rfl, H.out.drew.fail, grown_then (grown_drewN w 1 _) (grown_one _ _ _ _)⟩
  · have hbf : r.bad = false := by simpa using hb
    rw [hbf] at z2
    by_cases hc : cd = 0
    · subst hc
      rw [if_pos rfl, if_pos rfl] at hG
      have HG := Lib.hid hG; clear hG
      by_cases hm : m < x
      · have hR : rdNum m r = (0, r.fail) := by rw [HN.out, if_pos (.inr (.inr hm))]
        have HR := Lib.hid hR; clear hR HN hb
        have d1 : decide ((m : Int) < (x : Int)) = true := decide_eq_true (by omega)
        have d1' : decide (m < x) = true := decide_eq_true hm
        go_enter Tryz.func43, Tryz.ntmps43
        go_wp2
        go_region_held3 (fun w' => w'.cell? ⟨g, 0, none⟩ = some (.string (str r.s)) ∧ w'.cell? ⟨g, 1, none⟩ = some (.int .i64 (r.at_ : Nat)))
          (go_keep)
          ((first | (go_at_call 75; with_reducible refine (HG.out _).mono ?_; rintro e w' ⟨rfl, rfl⟩)))
        all_goals
          go_wp2
          go_ret
          rw [HR.out]
          exact ⟨rfl, H.out.drew.fail, grown_then (grown_drewN w 1 _) (grown_one _ _ _ _)⟩
      · have hR : rdNum m r = (x, r.step u) := by rw [HN.out, if_neg (by rintro (h | h | h); exact hb h; exact h rfl; exact hm h)]
        have HR := Lib.hid hR; clear hR HN hb
        have d1 : decide ((m : Int) < (x : Int)) = false := decide_eq_false (by omega)
        have d1' : decide (m < x) = false := decide_eq_false hm
        go_enter Tryz.func43, Tryz.ntmps43
        go_wp2
        go_region_held3 (fun w' => w'.cell? ⟨g, 0, none⟩ = some (.string (str r.s)) ∧ w'.cell? ⟨g, 1, none⟩ = some (.int .i64 (r.at_ : Nat)))
          (go_keep)
          ((first | (go_at_call 75; with_reducible refine (HG.out _).mono ?_; rintro e w' ⟨rfl, rfl⟩)))
        all_goals
          go_wp2
          go_ret
          rw [HR.out]
          exact ⟨rfl, H.out.drew.move u, grown_then (grown_drewN w 1 _) (grown_one _ _ _ _)⟩
    · have hR : rdNum m r = (0, r.fail) := by rw [HN.out, if_pos (.inr (.inl hc))]
      have HR := Lib.hid hR; clear hR HN hb
      rw [if_neg hc, if_neg hc] at hG
      obtain ⟨Co, hCo, hne⟩ : ∃ Co : Int, Co = (if cd = 1 then 500 else 501) ∧ (Co != 0) = true := ⟨_, rfl, by split <;> rfl⟩
      rw [← hCo] at hG
      clear hCo hgb hc
      have HG := Lib.hid hG; clear hG
      go_enter Tryz.func43, Tryz.ntmps43
      go_wp2
      go_region_held3 (fun w' => w'.cell? ⟨g, 0, none⟩ = some (.string (str r.s)) ∧ w'.cell? ⟨g, 1, none⟩ = some (.int .i64 (r.at_ : Nat)))
        (go_keep)
        ((first | (go_at_call 75; with_reducible refine (HG.out _).mono ?_; rintro e w' ⟨rfl, rfl⟩)))
      all_goals
        go_wp2
        go_ret
        rw [HR.out]
        exact ⟨rfl, H.out.drew.fail, grown_then (grown_drewN w 1 _) (grown_one _ _ _ _)⟩
set_option maxRecDepth 20000 in
set_option maxHeartbeats 4000000 in
theorem tnum_any (g m : Nat) (r : Rd) (w : World) (h : Rdr 96 w g r) (ok : OkR r) :
    Calls Tryz.prog 49 #[.pointer (some ⟨g, 0, none⟩), .int .i64 (m : Nat)] w fun e w' => e = .returned (.int .i64 ((rdNum m r).1 : Nat)) ∧ Rdr 96 w' g (rdNum m r).2 ∧ w.grownBy w' (some g) := by
  have hr1 := ok.1
  have hr2 := ok.2
  unfold maxReach at hr2
  have hG := fun w => Varint.Unvarint_any (str r.s) (r.at_ : Nat) w (by rw [str_size]; exact ok.2) (by omega) (by omega)
  obtain ⟨e1, e2, e3⟩ := g_rd (b := 63) ok
  rw [e1, e2, e3] at hG
  clear e1 e2 e3
  have hrn : rdNum m r = if r.bad = true ∨ (VarMath.get 63 r.rest).2.2 ≠ 0 ∨ m < (VarMath.get 63 r.rest).1 then (0, r.fail) else ((VarMath.get 63 r.rest).1, r.step (VarMath.get 63 r.rest).2.1) := rfl
  have hgb := get_bad (b := 63) (l := r.rest)
  generalize VarMath.get 63 r.rest = X at *
  obtain ⟨x, u, cd⟩ := X
  simp only [] at hG hrn hgb
  have HN := Lib.hid hrn; clear hrn
  have H := Lib.hid h
  obtain ⟨z0, z1, z2⟩ := h.cells
  have f1 := h.free 1
  have f2 := h.free 2
  clear h
  by_cases hb : r.bad = true
  · have hR : rdNum m r = (0, r.fail) := by rw [HN.out, if_pos (.inl hb)]
    have HR := Lib.hid hR; clear hR HN
    rw [hb] at z2
    generalize (if cd = 0 then (r.at_ : Int) + (u : Nat) else 0) = En at hG
    generalize (if cd = 0 then (0 : Int) else if cd = 1 then 500 else 501) = Co at hG
    have HG := Lib.hid hG; clear hG
    go_enter Tryz.func49, Tryz.ntmps49
    go_wp2
    go_region_held3 (fun w' => w'.cell? ⟨g, 0, none⟩ = some (.string (str r.s)) ∧ w'.cell? ⟨g, 1, none⟩ = some (.int .i64 (r.at_ : Nat)))
      (go_keep)
      ((first | (go_at_call 78; with_reducible refine (HG.out _).mono ?_; rintro e w' ⟨rfl, rfl⟩)))
    all_goals
      go_wp2
      go_ret
      rw [HR.out]
      exact ⟨rfl, H.out.drew.fail, grown_then (grown_drewN w 1 _) (grown_one _ _ _ _)⟩
  · have hbf : r.bad = false := by simpa using hb
    rw [hbf] at z2
    by_cases hc : cd = 0
    · subst hc
      rw [if_pos rfl, if_pos rfl] at hG
      have HG := Lib.hid hG; clear hG
      by_cases hm : m < x
      · have hR : rdNum m r = (0, r.fail) := by rw [HN.out, if_pos (.inr (.inr hm))]
        have HR := Lib.hid hR; clear hR HN hb
        have d1 : decide ((m : Int) < (x : Int)) = true := decide_eq_true (by omega)
        have d1' : decide (m < x) = true := decide_eq_true hm
        go_enter Tryz.func49, Tryz.ntmps49
        go_wp2
        go_region_held3 (fun w' => w'.cell? ⟨g, 0, none⟩ = some (.string (str r.s)) ∧ w'.cell? ⟨g, 1, none⟩ = some (.int .i64 (r.at_ : Nat)))
          (go_keep)
          ((first | (go_at_call 78; with_reducible refine (HG.out _).mono ?_; rintro e w' ⟨rfl, rfl⟩)))
        all_goals
          go_wp2
          go_ret
          rw [HR.out]
          exact ⟨rfl, H.out.drew.fail, grown_then (grown_drewN w 1 _) (grown_one _ _ _ _)⟩
      · have hR : rdNum m r = (x, r.step u) := by rw [HN.out, if_neg (by rintro (h | h | h); exact hb h; exact h rfl; exact hm h)]
        have HR := Lib.hid hR; clear hR HN hb
        have d1 : decide ((m : Int) < (x : Int)) = false := decide_eq_false (by omega)
        have d1' : decide (m < x) = false := decide_eq_false hm
        go_enter Tryz.func49, Tryz.ntmps49
        go_wp2
        go_region_held3 (fun w' => w'.cell? ⟨g, 0, none⟩ = some (.string (str r.s)) ∧ w'.cell? ⟨g, 1, none⟩ = some (.int .i64 (r.at_ : Nat)))
          (go_keep)
          ((first | (go_at_call 78; with_reducible refine (HG.out _).mono ?_; rintro e w' ⟨rfl, rfl⟩)))
        all_goals
          go_wp2
          go_ret
          rw [HR.out]
          exact ⟨rfl, H.out.drew.move u, grown_then (grown_drewN w 1 _) (grown_one _ _ _ _)⟩
    · have hR : rdNum m r = (0, r.fail) := by rw [HN.out, if_pos (.inr (.inl hc))]
      have HR := Lib.hid hR; clear hR HN hb
      rw [if_neg hc, if_neg hc] at hG
      obtain ⟨Co, hCo, hne⟩ : ∃ Co : Int, Co = (if cd = 1 then 500 else 501) ∧ (Co != 0) = true := ⟨_, rfl, by split <;> rfl⟩
      rw [← hCo] at hG
      clear hCo hgb hc
      have HG := Lib.hid hG; clear hG
      go_enter Tryz.func49, Tryz.ntmps49
      go_wp2
      go_region_held3 (fun w' => w'.cell? ⟨g, 0, none⟩ = some (.string (str r.s)) ∧ w'.cell? ⟨g, 1, none⟩ = some (.int .i64 (r.at_ : Nat)))
        (go_keep)
        ((first | (go_at_call 78; with_reducible refine (HG.out _).mono ?_; rintro e w' ⟨rfl, rfl⟩)))
      all_goals
        go_wp2
        go_ret
        rw [HR.out]
        exact ⟨rfl, H.out.drew.fail, grown_then (grown_drewN w 1 _) (grown_one _ _ _ _)⟩
end Go.Proofs.YtgmemdedpklnhaaGreat.Vec

/-
  THE WALKS of the readers: Byte, Scalar; value.
-/

namespace Go.Proofs.YtgmemdedpklnhaaGreat.Vec
open Go.RowKit ValMath Vals Sl VecMath Words

theorem rd_one (r : Rd) : (rdBytes 1 r).1 = [] ∨ ∃ b, (rdBytes 1 r).1 = [b] := by
  unfold rdBytes
  split
  · exact .inl rfl
  · simp only []
    cases hr : r.rest with
    | nil => exact .inl rfl
    | cons b l => exact .inr ⟨b, rfl⟩
set_option maxRecDepth 20000 in
set_option maxHeartbeats 4000000 in
theorem byte_any (g : Nat) (r : Rd) (w : World) (h : Rdr 88 w g r) (ok : OkR r) :
    Calls Tryz.prog 44 #[.pointer (some ⟨g, 0, none⟩)] w fun e w' => e = .returned (.int .i64 ((rdByte r).1 : Nat)) ∧ Rdr 88 w' g (rdByte r).2 ∧ w.grownBy w' (some g) := by
  have hB : Calls Tryz.prog 46 #[.pointer (some ⟨g, 0, none⟩), .int .i64 1] w fun e w' => e = .returned (.string (str (rdBytes 1 r).1)) ∧ Rdr 88 w' g (rdBytes 1 r).2 ∧ w.grownBy w' (some g) := bytes_any g 1 r w h ok (by omega)
  have hrb : rdByte r = (((rdBytes 1 r).1.headD 0).toNat, (rdBytes 1 r).2) := rfl
  rw [hrb]
  have hcase := rd_one r
  generalize rdBytes 1 r = X at *
  obtain ⟨l, r2⟩ := X
  simp only [] at hB hcase ⊢
  clear hrb h
  rcases hcase with rfl | ⟨b, rfl⟩
  · have HB := Lib.hid hB; clear hB
    have he : (str []).toList.isEmpty = true := by rw [Lib.toList_data]; rfl
    go_enter Tryz.func44, Tryz.ntmps44
    go_wp2_with (go_at_call 46; (with_reducible refine HB.out.mono ?_); rintro e w1 ⟨rfl, hR, hg⟩)
    go_ret
    exact ⟨rfl, hR, hg⟩
  · have HB := Lib.hid hB; clear hB
    have he : (str [b]).toList.isEmpty = false := by rw [Lib.toList_data]; rfl
    have hat := run_at (str [b]) 0 0 rfl (by rw [str_size]; simp)
    have hby : byteAt (str [b]).data.toList 0 = b.toNat := by rw [str_list]; rfl
    rw [hby] at hat
    have hwr : wrap64 ((b.toNat : Nat) : Int) = ((b.toNat : Nat) : Int) := by have := b.toNat_lt; unfold wrap64; omega
    generalize hS : str [b] = S at *
    clear hS hby
    go_enter Tryz.func44, Tryz.ntmps44
    go_wp2_with (go_at_call 46; (with_reducible refine HB.out.mono ?_); rintro e w1 ⟨rfl, hR, hg⟩)
    go_ret
    exact ⟨ret_int64 (by rw [hwr]; rfl), hR, hg⟩
theorem byte_is_one (r : Rd) : ((rdByte r).1 = 1) ↔ ((rdBytes 1 r).1 = [1]) := by
  unfold rdByte
  rcases rd_one r with h | ⟨b, h⟩
  · simp [h]
  · simp only [h, List.headD_cons, List.cons.injEq, and_true]
    exact ⟨fun e => UInt8.toNat_inj.1 e, fun e => by rw [e]; rfl⟩
theorem rdByte_okR {r : Rd} (h : OkR r) : OkR (rdByte r).2 := rdBytes_okR h
theorem rdVal_okR {k : Int} {r : Rd} (h : OkR r) : OkR (rdVal k r).2 := by
  unfold rdVal
  split
  · split
    · exact h
    · rename_i h2
      simp only [not_or] at h2
      have h3 := get_used (b := 64) (l := r.rest) (by omega)
      have h1 := h.1
      have h4 : r.rest.length = r.s.length - r.at_ := by unfold Rd.rest; rw [List.length_drop]
      exact ⟨by show r.at_ + _ ≤ r.s.length; omega, h.2⟩
  · split
    · exact rdBytes_okR h
    · exact rdBytes_okR (rdNum_okR h)

theorem rdVal_one {r : Rd} : rdVal 1 r = if r.bad = true ∨ (VarMath.get 64 r.rest).2.2 ≠ 0 then (nul, r.fail) else (⟨1, VarMath.zag (VarMath.get 64 r.rest).1, false, ByteArray.empty⟩, r.step (VarMath.get 64 r.rest).2.1) := by unfold rdVal; rw [if_pos rfl]
theorem rdVal_two {r : Rd} : rdVal 2 r = (⟨2, 0, decide ((rdBytes 1 r).1 = [1]), ByteArray.empty⟩, (rdBytes 1 r).2) := by unfold rdVal; rw [if_neg (by decide), if_pos rfl]
theorem rdVal_three {r : Rd} : rdVal 3 r = (⟨3, 0, false, ⟨(rdBytes (rdNum 64 r).1 (rdNum 64 r).2).1.toArray⟩⟩, (rdBytes (rdNum 64 r).1 (rdNum 64 r).2).2) := by unfold rdVal; rw [if_neg (by decide), if_neg (by decide)]
theorem Rdr.other {T : TypeId} {w : World} {g g' o : Nat} {r : Rd} {x : Value} (h : Rdr T w g r) (hne : g ≠ g') : Rdr T (w.setCell ⟨g', o, none⟩ x) g r := by
  unfold Rdr at h ⊢
  rw [Below.heap_setCell _ _ _ _ hne]; exact h
theorem grown_new {w a : World} {g b j : Nat} {x : Value} (h : w.grownBy a (some g)) (hb : w.heap.size ≤ b) : w.grownBy (a.setCell ⟨b, j, none⟩ x) (some g) := h.andThen (grown_one a b j x) (fun _ hj => .inl (by cases hj; exact hb))
theorem grown_put4 {w a : World} {g b : Nat} {u0 u1 u2 u3 : Value} (h : w.grownBy a (some g)) (hb : w.heap.size ≤ b) : w.grownBy ((((a.setCell ⟨b, 0, none⟩ u0).setCell ⟨b, 1, none⟩ u1).setCell ⟨b, 2, none⟩ u2).setCell ⟨b, 3, none⟩ u3) (some g) := grown_new (grown_new (grown_new (grown_new h hb) hb) hb) hb
theorem Rdr.other4 {T : TypeId} {w : World} {g b : Nat} {r : Rd} {u0 u1 u2 u3 : Value} (h : Rdr T w g r) (hne : g ≠ b) : Rdr T ((((w.setCell ⟨b, 0, none⟩ u0).setCell ⟨b, 1, none⟩ u1).setCell ⟨b, 2, none⟩ u2).setCell ⟨b, 3, none⟩ u3) g r := (((h.other hne).other hne).other hne).other hne
set_option maxRecDepth 20000 in
set_option maxHeartbeats 4000000 in
theorem scalar2_any (g : Nat) (r : Rd) (w : World) (h : Rdr 88 w g r) (ok : OkR r) :
    Calls Tryz.prog 105 #[.pointer (some ⟨g, 0, none⟩), .int .i64 2] w fun e w' => e = .returned (vagg (rdVal 2 r).1) ∧ Rdr 88 w' g (rdVal 2 r).2 ∧ w.grownBy w' (some g) := by
  rw [rdVal_two]
  have hB := fun w h => byte_any g r w h ok
  have hb2 : (rdByte r).2 = (rdBytes 1 r).2 := rfl
  rw [← hb2]
  clear hb2
  have hone : ((((rdByte r).1 : Nat) : Int) == 1) = decide ((rdBytes 1 r).1 = [1]) := by
    have hi := byte_is_one r
    by_cases h1 : (rdBytes 1 r).1 = [1]
    · rw [decide_eq_true h1]; have := hi.2 h1; simp [this]
    · rw [decide_eq_false h1]
      have h2 : ¬ (rdByte r).1 = 1 := fun e => h1 (hi.1 e)
      simp; omega
  generalize decide ((rdBytes 1 r).1 = [1]) = bt at *
  generalize rdByte r = X at *
  obtain ⟨x, r2⟩ := X
  simp only [] at hB hone ⊢
  have HB := Lib.hid hB; clear hB
  have H := Lib.hid h; clear h
  have hA : Box ((w.alloc (.cells #[.int .i64 0, .int .i64 0, .bool false, .string { data := #[] }] 71)).alloc (.cells #[.int .i64 2, .int .i64 0, .bool false, .string { data := #[] }] 71)) w.heap.size nul := (Box.new w nul).alloc _
  have hC : Box ((w.alloc (.cells #[.int .i64 0, .int .i64 0, .bool false, .string { data := #[] }] 71)).alloc (.cells #[.int .i64 2, .int .i64 0, .bool false, .string { data := #[] }] 71)) (w.heap.size + 1) ⟨2, 0, false, ByteArray.empty⟩ := Stats.box_new _ _ (by simp) ⟨2, 0, false, ByteArray.empty⟩
  have hR := (H.out.alloc (.cells #[.int .i64 0, .int .i64 0, .bool false, .string { data := #[] }] 71)).alloc (.cells #[.int .i64 2, .int .i64 0, .bool false, .string { data := #[] }] 71)
  have HH := Lib.hid (And.intro hA (And.intro hC hR)); clear hA hC hR
  have hg := H.out.lt
  go_enter Tryz.func105, Tryz.ntmps105
  go_wp2_with (go_at_call 44; (with_reducible refine (HB.out _ HH.out.2.2).mono ?_); rintro e w1 ⟨rfl, hR1, hg1⟩; have hA1 := HH.out.1.grown hg1 (by simp; omega); have hC1 := HH.out.2.1.grown hg1 (by simp; omega); obtain ⟨x0, x1, x2, x3⟩ := hA1.cells; obtain ⟨y0, y1, y2, y3⟩ := hC1.cells; (try simp only [nul] at x0 x1 x2 x3 y0 y1 y2 y3); have xf0 := hA1.free 0; have xf1 := hA1.free 1; have xf2 := hA1.free 2; have xf3 := hA1.free 3; have yf2 := hC1.free 2)
  have hgr := grown_then (grown_then (World.grownBy_alloc w _ (some g)) (World.grownBy_alloc _ _ (some g))) hg1
  exact Stats.ret_box ((hA1.other (by omega)).put (u := ⟨2, 0, bt, ByteArray.empty⟩)) rfl rfl rfl ⟨rfl, (hR1.other (by omega)).other4 (by omega), grown_put4 (grown_new hgr (Nat.le_succ _)) (Nat.le_refl _)⟩

theorem str_mk (l : List UInt8) : str l = ⟨l.toArray⟩ := rfl
set_option maxRecDepth 20000 in
set_option maxHeartbeats 4000000 in
theorem scalar3_any (g : Nat) (r : Rd) (w : World) (h : Rdr 88 w g r) (ok : OkR r) :
    Calls Tryz.prog 105 #[.pointer (some ⟨g, 0, none⟩), .int .i64 3] w fun e w' => e = .returned (vagg (rdVal 3 r).1) ∧ Rdr 88 w' g (rdVal 3 r).2 ∧ w.grownBy w' (some g) := by
  rw [rdVal_three]
  have hN : ∀ w, Rdr 88 w g r → Calls Tryz.prog 43 #[.pointer (some ⟨g, 0, none⟩), .int .i64 64] w fun e w' => e = .returned (.int .i64 ((rdNum 64 r).1 : Nat)) ∧ Rdr 88 w' g (rdNum 64 r).2 ∧ w.grownBy w' (some g) := fun w h => num_any g 64 r w h ok
  have hle := rdNum_le 64 r
  have ok2 := rdNum_okR (m := 64) ok
  generalize rdNum 64 r = X at *
  obtain ⟨x, r2⟩ := X
  simp only [] at hN hle ok2 ⊢
  have hB := fun w h => bytes_any g x r2 w h ok2 (by omega)
  rw [← str_mk]
  generalize rdBytes x r2 = Y at *
  obtain ⟨l, r3⟩ := Y
  simp only [] at hB ⊢
  generalize str l = S at *
  have HN := Lib.hid hN; clear hN
  have HB := Lib.hid hB; clear hB
  have H := Lib.hid h; clear h
  have hA : Box ((w.alloc (.cells #[.int .i64 0, .int .i64 0, .bool false, .string { data := #[] }] 71)).alloc (.cells #[.int .i64 3, .int .i64 0, .bool false, .string { data := #[] }] 71)) w.heap.size nul := (Box.new w nul).alloc _
  have hC : Box ((w.alloc (.cells #[.int .i64 0, .int .i64 0, .bool false, .string { data := #[] }] 71)).alloc (.cells #[.int .i64 3, .int .i64 0, .bool false, .string { data := #[] }] 71)) (w.heap.size + 1) ⟨3, 0, false, ByteArray.empty⟩ := Stats.box_new _ _ (by simp) ⟨3, 0, false, ByteArray.empty⟩
  have hR := (H.out.alloc (.cells #[.int .i64 0, .int .i64 0, .bool false, .string { data := #[] }] 71)).alloc (.cells #[.int .i64 3, .int .i64 0, .bool false, .string { data := #[] }] 71)
  have HH := Lib.hid (And.intro hA (And.intro hC hR)); clear hA hC hR
  have hg := H.out.lt
  go_enter Tryz.func105, Tryz.ntmps105
  go_wp2_with (first
    | (go_at_call 43; (with_reducible refine (HN.out _ HH.out.2.2).mono ?_); rintro e w1 ⟨rfl, hR1, hg1⟩; have hA1 := HH.out.1.grown hg1 (by simp; omega); have hC1 := HH.out.2.1.grown hg1 (by simp; omega))
    | (go_at_call 46; (with_reducible refine (HB.out _ hR1).mono ?_); rintro e w2 ⟨rfl, hR2, hg2⟩; have hA2 := hA1.grown hg2 (by simp; omega); have hC2 := hC1.grown hg2 (by simp; omega); obtain ⟨x0, x1, x2, x3⟩ := hA2.cells; obtain ⟨y0, y1, y2, y3⟩ := hC2.cells; (try simp only [nul] at x0 x1 x2 x3 y0 y1 y2 y3); have xf0 := hA2.free 0; have xf1 := hA2.free 1; have xf2 := hA2.free 2; have xf3 := hA2.free 3; have yf3 := hC2.free 3))
  have hgr := grown_then (grown_then (grown_then (World.grownBy_alloc w _ (some g)) (World.grownBy_alloc _ _ (some g))) hg1) hg2
  exact Stats.ret_box ((hA2.other (by omega)).put (u := ⟨3, 0, false, S⟩)) rfl rfl rfl ⟨rfl, (hR2.other (by omega)).other4 (by omega), grown_put4 (grown_new hgr (Nat.le_succ _)) (Nat.le_refl _)⟩

theorem box_put1 {w : World} {g : Nat} {v : Val} (h : Box w g v) (x : Int) : Box (w.setCell ⟨g, 1, none⟩ (.int .i64 x)) g ⟨v.k, x, v.b, v.s⟩ := set_heap h
set_option maxRecDepth 20000 in
set_option maxHeartbeats 4000000 in
theorem scalar1_any (g : Nat) (r : Rd) (w : World) (h : Rdr 88 w g r) (ok : OkR r) :
    Calls Tryz.prog 105 #[.pointer (some ⟨g, 0, none⟩), .int .i64 1] w fun e w' => e = .returned (vagg (rdVal 1 r).1) ∧ Rdr 88 w' g (rdVal 1 r).2 ∧ w.grownBy w' (some g) := by
  have hr1 := ok.1
  have hr2 := ok.2
  unfold maxReach at hr2
  have hG := fun w => Varint.Zag_any (str r.s) (r.at_ : Nat) w (by rw [str_size]; exact ok.2) (by omega) (by omega)
  obtain ⟨e1, e2, e3⟩ := g_rd (b := 64) ok
  rw [e1, e2, e3] at hG
  clear e1 e2 e3
  have hrn := rdVal_one (r := r)
  have hgb := get_bad (b := 64) (l := r.rest)
  generalize VarMath.get 64 r.rest = X at *
  obtain ⟨x, u, cd⟩ := X
  simp only [] at hG hrn hgb
  generalize VarMath.zag x = z at *
  have HN := Lib.hid hrn; clear hrn
  have H := Lib.hid h; clear h
  have hg := H.out.lt
  have hne1 : g ≠ w.heap.size := by omega
  have hne2 : g ≠ w.heap.size + 1 := by omega
  have hne3 : w.heap.size ≠ g := by omega
  have hne4 : w.heap.size + 1 ≠ g := by omega
  have hne5 : w.heap.size ≠ w.heap.size + 1 := by omega
  have hne6 : w.heap.size + 1 ≠ w.heap.size := by omega
  have hA : Box ((w.alloc (.cells #[.int .i64 0, .int .i64 0, .bool false, .string { data := #[] }] 71)).alloc (.cells #[.int .i64 1, .int .i64 0, .bool false, .string { data := #[] }] 71)) w.heap.size nul := (Box.new w nul).alloc _
  have hC : Box ((w.alloc (.cells #[.int .i64 0, .int .i64 0, .bool false, .string { data := #[] }] 71)).alloc (.cells #[.int .i64 1, .int .i64 0, .bool false, .string { data := #[] }] 71)) (w.heap.size + 1) ⟨1, 0, false, ByteArray.empty⟩ := Stats.box_new _ _ (by simp) ⟨1, 0, false, ByteArray.empty⟩
  have hR := (H.out.alloc (.cells #[.int .i64 0, .int .i64 0, .bool false, .string { data := #[] }] 71)).alloc (.cells #[.int .i64 1, .int .i64 0, .bool false, .string { data := #[] }] 71)
  have hgr0 : w.grownBy ((w.alloc (.cells #[.int .i64 0, .int .i64 0, .bool false, .string { data := #[] }] 71)).alloc (.cells #[.int .i64 1, .int .i64 0, .bool false, .string { data := #[] }] 71)) (some g) := grown_then (World.grownBy_alloc w _ (some g)) (World.grownBy_alloc _ _ (some g))
  have hgr : w.grownBy ((w.alloc (.cells #[.int .i64 0, .int .i64 0, .bool false, .string { data := #[] }] 71)).alloc (.cells #[.int .i64 1, .int .i64 0, .bool false, .string { data := #[] }] 71)).drew (some g) := grown_then (grown_then (World.grownBy_alloc w _ (some g)) (World.grownBy_alloc _ _ (some g))) (grown_drewN _ 1 _)
  obtain ⟨z0, z1, z2⟩ := hR.cells
  have f1 := hR.free 1
  have f2 := hR.free 2
  obtain ⟨x0, x1, x2, x3⟩ := hA.cells
  obtain ⟨y0, y1, y2, y3⟩ := hC.cells
  have xf0 := hA.free 0; have xf1 := hA.free 1; have xf2 := hA.free 2; have xf3 := hA.free 3
  have yf1 := hC.free 1
  simp only [nul] at x0 x1 x2 x3 y0 y1 y2 y3
  have HH := Lib.hid (And.intro hA (And.intro hC hR)); clear hA hC hR
  by_cases hb : r.bad = true
  · have hR : rdVal 1 r = (nul, r.fail) := by rw [HN.out, if_pos (.inl hb)]
    have HR := Lib.hid hR; clear hR HN
    rw [hb] at z2
    generalize (if cd = 0 then (r.at_ : Int) + (u : Nat) else 0) = En at hG
    generalize (if cd = 0 then (0 : Int) else if cd = 1 then 500 else 501) = Co at hG
    have HG := Lib.hid hG; clear hG
    go_enter Tryz.func105, Tryz.ntmps105
    go_wp2
    generalize (w.alloc (.cells #[.int .i64 0, .int .i64 0, .bool false, .string { data := #[] }] 71)).alloc (.cells #[.int .i64 1, .int .i64 0, .bool false, .string { data := #[] }] 71) = W0 at *
    go_region_held3 (fun w' => w'.cell? ⟨g, 0, none⟩ = some (.string (str r.s)) ∧ w'.cell? ⟨g, 1, none⟩ = some (.int .i64 (r.at_ : Nat)))
      (go_keep)
      ((first | (go_at_call 116; with_reducible refine (HG.out _).mono ?_; rintro e w' ⟨rfl, rfl⟩)))
    all_goals
      go_upto_region 8 with fail
      have hBX : Box (W0.drew.setCell ⟨g, 2, none⟩ (.bool true)) w.heap.size nul := (Box.drew HH.out.1).other hne3
      clear x0 x1 x2 x3 y0 y1 y2 y3 xf0 xf1 xf2 xf3 yf1 z0 z1 z2 f1 f2
      go_wp2_with (refine wpList_store_val rfl (.tmp 4) (.tmp 43) rfl w.heap.size nul nul rfl rfl hBX ?_; intro wq hBq hgq hsq)
      rw [HR.out]
      exact Stats.ret_box hBq rfl rfl rfl ⟨rfl, (HH.out.2.2.drew.fail).grown hgq (by simp; omega), (grown_then hgr (grown_one _ _ _ _)).andThen hgq (fun _ hj => .inl (by cases hj; exact Nat.le_refl _))⟩
  · have hbf : r.bad = false := by simpa using hb
    rw [hbf] at z2
    by_cases hc : cd = 0
    · subst hc
      rw [if_pos rfl, if_pos rfl] at hG
      have HG := Lib.hid hG; clear hG
      have hR : rdVal 1 r = (⟨1, z, false, ByteArray.empty⟩, r.step u) := by rw [HN.out, if_neg (by rintro (h | h); exact hb h; exact h rfl)]
      have HR := Lib.hid hR; clear hR HN hb
      go_enter Tryz.func105, Tryz.ntmps105
      go_wp2
      generalize (w.alloc (.cells #[.int .i64 0, .int .i64 0, .bool false, .string { data := #[] }] 71)).alloc (.cells #[.int .i64 1, .int .i64 0, .bool false, .string { data := #[] }] 71) = W0 at *
      go_region_held3 (fun w' => w'.cell? ⟨g, 0, none⟩ = some (.string (str r.s)) ∧ w'.cell? ⟨g, 1, none⟩ = some (.int .i64 (r.at_ : Nat)))
        (go_keep)
        ((first | (go_at_call 116; with_reducible refine (HG.out _).mono ?_; rintro e w' ⟨rfl, rfl⟩)))
      all_goals
        go_upto_region 9 with fail
        clear x0 x1 x2 x3 y0 y2 y3 xf0 xf1 xf2 xf3 z0 z2 f2
        go_upto_region 12 with fail
        clear z1 f1 y1 yf1
        have hM : Rdr 88 (((W0.setCell ⟨w.heap.size + 1, 1, none⟩ (.int .i64 z)).setCell ⟨g, 1, none⟩ (.int .i64 ((r.at_ : Int) + (u : Int)))).drew) g (r.step u) := ((HH.out.2.2.other hne2).move u).drew
        have hA2 : Box (((W0.setCell ⟨w.heap.size + 1, 1, none⟩ (.int .i64 z)).setCell ⟨g, 1, none⟩ (.int .i64 ((r.at_ : Int) + (u : Int)))).drew) w.heap.size nul := Box.drew ((HH.out.1.other hne5).other hne3)
        have hC2 : Box (((W0.setCell ⟨w.heap.size + 1, 1, none⟩ (.int .i64 z)).setCell ⟨g, 1, none⟩ (.int .i64 ((r.at_ : Int) + (u : Int)))).drew) (w.heap.size + 1) ⟨1, z, false, ByteArray.empty⟩ := Box.drew (Box.other (box_put1 HH.out.2.1 z) hne4)
        have hgr2 : w.grownBy (((W0.setCell ⟨w.heap.size + 1, 1, none⟩ (.int .i64 z)).setCell ⟨g, 1, none⟩ (.int .i64 ((r.at_ : Int) + (u : Int)))).drew) (some g) := grown_then (grown_then (grown_new hgr0 (Nat.le_succ _)) (grown_one _ _ _ _)) (grown_drewN _ 1 _)
        obtain ⟨y0, y1, y2, y3⟩ := hC2.cells
        simp only [] at y0 y1 y2 y3
        go_wp2_with (refine wpList_store_val rfl (.tmp 4) (.tmp 56) rfl w.heap.size ⟨1, z, false, ByteArray.empty⟩ nul rfl rfl hA2 ?_; intro wq hBq hgq hsq)
        rw [HR.out]
        exact Stats.ret_box hBq rfl rfl rfl ⟨rfl, hM.grown hgq (by simp; omega), hgr2.andThen hgq (fun _ hj => .inl (by cases hj; exact Nat.le_refl _))⟩
    · have hR : rdVal 1 r = (nul, r.fail) := by rw [HN.out, if_pos (.inr hc)]
      have HR := Lib.hid hR; clear hR HN hb
      rw [if_neg hc, if_neg hc] at hG
      obtain ⟨Co, hCo, hne⟩ : ∃ Co : Int, Co = (if cd = 1 then 500 else 501) ∧ (Co != 0) = true := ⟨_, rfl, by split <;> rfl⟩
      rw [← hCo] at hG
      clear hCo hgb hc
      have HG := Lib.hid hG; clear hG
      go_enter Tryz.func105, Tryz.ntmps105
      go_wp2
      generalize (w.alloc (.cells #[.int .i64 0, .int .i64 0, .bool false, .string { data := #[] }] 71)).alloc (.cells #[.int .i64 1, .int .i64 0, .bool false, .string { data := #[] }] 71) = W0 at *
      go_region_held3 (fun w' => w'.cell? ⟨g, 0, none⟩ = some (.string (str r.s)) ∧ w'.cell? ⟨g, 1, none⟩ = some (.int .i64 (r.at_ : Nat)))
        (go_keep)
        ((first | (go_at_call 116; with_reducible refine (HG.out _).mono ?_; rintro e w' ⟨rfl, rfl⟩)))
      all_goals
        go_upto_region 8 with fail
        have hBX : Box (W0.drew.setCell ⟨g, 2, none⟩ (.bool true)) w.heap.size nul := (Box.drew HH.out.1).other hne3
        clear x0 x1 x2 x3 y0 y1 y2 y3 xf0 xf1 xf2 xf3 yf1 z0 z1 z2 f1 f2
        go_wp2_with (refine wpList_store_val rfl (.tmp 4) (.tmp 43) rfl w.heap.size nul nul rfl rfl hBX ?_; intro wq hBq hgq hsq)
        rw [HR.out]
        exact Stats.ret_box hBq rfl rfl rfl ⟨rfl, (HH.out.2.2.drew.fail).grown hgq (by simp; omega), (grown_then hgr (grown_one _ _ _ _)).andThen hgq (fun _ hj => .inl (by cases hj; exact Nat.le_refl _))⟩
theorem scalarR_any (k : Int) (g : Nat) (r : Rd) (w : World) (hk : k = 1 ∨ k = 2 ∨ k = 3) (h : Rdr 88 w g r) (ok : OkR r) :
    Calls Tryz.prog 105 #[.pointer (some ⟨g, 0, none⟩), .int .i64 k] w fun e w' => e = .returned (vagg (rdVal k r).1) ∧ Rdr 88 w' g (rdVal k r).2 ∧ w.grownBy w' (some g) := by
  rcases hk with rfl | rfl | rfl
  · exact scalar1_any g r w h ok
  · exact scalar2_any g r w h ok
  · exact scalar3_any g r w h ok
end Go.Proofs.YtgmemdedpklnhaaGreat.Vec

/-
  THE WALK of bitpack.Unpack.
-/

namespace Go.Proofs.YtgmemdedpklnhaaGreat.Bitpack
open Go.RowKit BitMath Sl

/-- What the loops of Unpack hold: a bytes read, d bits taken, h bits in the window q. -/
def ReadAt (l : List UInt8) (d a h q : Nat) : Prop := 8 * a = d + h ∧ q = num (l.take a) / 2 ^ d
theorem ReadAt.lt {l : List UInt8} {d a h q : Nat} (p : ReadAt l d a h q) : q < 2 ^ h := by
  obtain ⟨h1, rfl⟩ := p
  have hlt : num (l.take a) < 2 ^ (8 * a) := by
    have := num_lt (l.take a)
    rw [p256] at this
    exact Nat.lt_of_lt_of_le this (Nat.pow_le_pow_right (by omega) (by rw [List.length_take]; omega))
  refine Nat.div_lt_of_lt_mul ?_
  rw [← Nat.pow_add, ← h1]; exact hlt
theorem ReadAt.more {l : List UInt8} {d a h q : Nat} (p : ReadAt l d a h q) (ha : a < l.length) : ReadAt l d (a + 1) (h + 8) (q ||| byteAt l a * 2 ^ h) := by
  obtain ⟨h1, rfl⟩ := p
  refine ⟨by omega, ?_⟩
  have := (read_or (d := d) ha (by omega)).1
  rw [show 8 * a - d = h by omega] at this
  exact this
theorem ReadAt.low {l : List UInt8} {d a h q w : Nat} (p : ReadAt l d a h q) (hw : w ≤ h) : q % 2 ^ w = num l / 2 ^ d % 2 ^ w := by
  obtain ⟨h1, rfl⟩ := p
  exact read_low (by omega)
theorem ReadAt.take {l : List UInt8} {d a h q w : Nat} (p : ReadAt l d a h q) (hw : w ≤ h) : ReadAt l (d + w) a (h - w) (q / 2 ^ w) := by
  obtain ⟨h1, rfl⟩ := p
  exact ⟨by omega, read_next _ _ _⟩
theorem or_win2 {q y h : Nat} (hq : q < 2 ^ h) (hy : y < 256) (hh : h < 16) : bits .or .i64 (q : Int) (wrap64 ((y : Int) * 2 ^ h)) = ((q ||| y * 2 ^ h : Nat) : Int) ∧ (q ||| y * 2 ^ h) < 16777216 := by
  have h7 : 2 ^ h ≤ 2 ^ 15 := Nat.pow_le_pow_right (by omega) (by omega)
  have h8 : y * 2 ^ h ≤ 255 * 2 ^ 15 := Nat.mul_le_mul (by omega) h7
  have e : (y : Int) * 2 ^ h = ((y * 2 ^ h : Nat) : Int) := by push_cast; rfl
  have e2 : wrap64 ((y : Int) * 2 ^ h) = ((y * 2 ^ h : Nat) : Int) := by rw [e]; unfold wrap64; omega
  rw [e2]
  exact ⟨or_i64 _ _ (by omega) (by omega), Nat.or_lt_two_pow (n := 24) (by omega) (by omega)⟩

set_option maxRecDepth 100000 in
set_option maxHeartbeats 8000000 in
theorem unpack_any (s : ByteArray) (many width : Int) (w : World) (hs : s.size ≤ maxReach) :
    Calls Tryz.prog 104 #[.string s, .int .i64 many, .int .i64 width] w fun e w' => ∃ v, e = .returned (.tuple #[v, .int .i64 (unpackE s.data.toList many width)]) ∧ OwnI w' w.heap.size v (unpackL s.data.toList many width) ∧ Below w.heap.size w w' := by
  unfold maxReach at hs
  by_cases hw : wide width
  · obtain ⟨e1, e2⟩ := unpack_wide (s := s.data.toList) (many := many) hw
    rw [e1, e2]
    unfold wide at hw
    clear e1 e2
    go_enter Tryz.func104, Tryz.ntmps104
    by_cases h0 : width < 0
    · go_wp2
      go_ret2
      exact ⟨_, rfl, OwnI.nil _ _, Below.refl _ _⟩
    · have h1 : 16 < width := by omega
      go_wp2
      go_ret2
      exact ⟨_, rfl, OwnI.nil _ _, Below.refl _ _⟩
  by_cases hr : many < 0 ∨ 65536 < many
  · obtain ⟨e1, e2⟩ := unpack_range (s := s.data.toList) hw hr
    rw [e1, e2]
    unfold wide at hw
    clear e1 e2
    have k1 : ¬ width < 0 := by omega
    have k2 : ¬ 16 < width := by omega
    clear hw
    go_enter Tryz.func104, Tryz.ntmps104
    by_cases h0 : many < 0
    · go_wp2
      go_ret2
      exact ⟨_, rfl, OwnI.nil _ _, Below.refl _ _⟩
    · have h1 : 65536 < many := by omega
      go_wp2
      go_ret2
      exact ⟨_, rfl, OwnI.nil _ _, Below.refl _ _⟩
  obtain ⟨wd, rfl⟩ : ∃ wd : Nat, width = (wd : Nat) := ⟨width.toNat, by unfold wide at hw; omega⟩
  have hw16 : wd ≤ 16 := by unfold wide at hw; omega
  obtain ⟨m, rfl⟩ : ∃ m : Nat, many = (m : Nat) := ⟨many.toNat, by omega⟩
  have hm : m ≤ 65536 := by omega
  have hmI : (m : Int) ≤ 65536 := by omega
  clear hw hr
  obtain ⟨P, hP⟩ : ∃ P, P = m * wd := ⟨_, rfl⟩
  have hPl : P ≤ 1048576 := by rw [hP]; exact Nat.le_trans (Nat.mul_le_mul hm hw16) (by omega)
  have hPI : (m : Int) * (wd : Int) = (P : Int) := by rw [hP]; push_cast; rfl
  have HM := Lib.hid hm; clear hm
  have HP := Lib.hid hP; clear hP
  have hl : s.data.toList.length = s.size := by simp
  by_cases hlen : s.size = (P + 7) / 8
  · obtain ⟨M, hM⟩ : ∃ M, M = 2 ^ wd := ⟨_, rfl⟩
    have hMl : M ≤ 65536 := by rw [hM]; exact Nat.pow_le_pow_right (by omega) hw16
    have hM0 : 0 < M := by rw [hM]; exact Nat.pow_pos (by omega)
    have hMI : (2 : Int) ^ wd = (M : Int) := by rw [hM]; push_cast; rfl
    have HMM := Lib.hid hM; clear hM
    have hleni : ((s.size : Int) != ((P : Int) + 7) / 8) = false := by rw [bne_eq_false_iff_eq]; omega
    obtain ⟨LL, hLL⟩ : ∃ LL, LL = unpackL s.data.toList m wd := ⟨_, rfl⟩
    obtain ⟨E, hE⟩ : ∃ E, E = unpackE s.data.toList m wd := ⟨_, rfl⟩
    rw [← hLL, ← hE]
    have HR := Lib.hid (And.intro hLL hE); clear hLL hE
    have HL := Lib.hid hl; clear hl
    have hMlI : (M : Int) ≤ 65536 := by omega
    go_enter Tryz.func104, Tryz.ntmps104
    go_wp2
    go_loopw [8, 9, 10, 11, 36] (fun ov qv hv av iv wr => ∃ k a h q : Nat, k ≤ m ∧ iv = .int .i64 k ∧ h < 8 ∧ hv = .int .i64 h ∧ av = .int .i64 a ∧ a ≤ s.size ∧ qv = .int .i64 q ∧ Hid (ReadAt s.data.toList (wd * k) a h q) ∧ OwnI wr w.heap.size ov (many_ (num s.data.toList) k wd) ∧ Below w.heap.size w wr) (fun _ _ _ _ iv _ => m - (intOf iv).toNat)
    case atStart => exact ⟨0, 0, 0, 0, by omega, rfl, by omega, rfl, rfl, by omega, rfl, Lib.hid ⟨by omega, by simp [num]⟩, OwnI.nil _ _, Below.refl _ _⟩
    case round =>
      obtain ⟨k, a, h, q, hk, rfl, hh, rfl, rfl, ha, rfl, hp, hO, hb⟩ := hrel
      have HO := Lib.hid hO; clear hO
      by_cases hkm : k < m
      · obtain ⟨T, hT⟩ : ∃ T, T = wd * k := ⟨_, rfl⟩
        have hTP : T + wd ≤ P := by rw [hT, HP.out, Nat.mul_comm m, ← Nat.mul_succ]; exact Nat.mul_le_mul_left _ hkm
        rw [← hT] at hp
        have HT := Lib.hid hT; clear hT
        have hkI : (k : Int) < (m : Int) := by omega
        go_wp2
        go_loop [9, 10, 11] (fun qv hv av => ∃ a h q : Nat, hv = .int .i64 h ∧ av = .int .i64 a ∧ a ≤ s.size ∧ qv = .int .i64 q ∧ h < wd + 8 ∧ q < 16777216 ∧ Hid (ReadAt s.data.toList T a h q)) (fun _ hv _ => 40 - (intOf hv).toNat)
        case atStart =>
          have hq := hp.out.lt
          have h2 : 2 ^ h ≤ 2 ^ 7 := Nat.pow_le_pow_right (by omega) (by omega)
          exact ⟨a, h, q, rfl, rfl, ha, rfl, by omega, by omega, hp⟩
        case round =>
          obtain ⟨a, h, q, rfl, rfl, ha, rfl, hh, hq, hp⟩ := hrel
          by_cases hhw : h < wd
          · have has : a < s.size := by have := hp.out.1; omega
            have hat := run_at s (a : Nat) a rfl has
            have hy := byteAt_lt s.data.toList a
            have hmo := hp.out.more (by rw [HL.out]; exact has)
            obtain ⟨hor, hq2⟩ := or_win2 hp.out.lt hy (by omega)
            have HMO := Lib.hid hmo; clear hmo
            generalize byteAt s.data.toList a = y at *
            generalize q ||| y * 2 ^ h = q2 at *
            go_wp2
            go_round
            case rel => exact ⟨a + 1, h + 8, q2, by go_num, by go_num, by omega, rfl, by omega, hq2, HMO⟩
            case measure => simp [intOf]; omega
          · have hlo := hp.out.low (w := wd) (by omega)
            have hta := hp.out.take (w := wd) (by omega)
            have hsn := many_snoc (num s.data.toList) k wd
            rw [← HT.out, ← hlo] at hsn
            have hml := many_length (num s.data.toList) k wd
            rw [← HMM.out] at hta hsn
            have hmask : bits .and .i64 (q : Int) ((M : Int) - 1) = ((q % M : Nat) : Int) := by
              have := and_mask_i64 (q : Int) wd (by omega)
              rw [← HMM.out, show ((M - 1 : Nat) : Int) = (M : Int) - 1 by omega] at this
              rw [this]; omega
            have hdiv : (q : Int) / (M : Int) = ((q / M : Nat) : Int) := by omega
            have hd2 : T + wd = wd * (k + 1) := by rw [HT.out, Nat.mul_succ]
            rw [hd2] at hta
            have HTA := Lib.hid hta; clear hta hlo hd2
            have HSN := Lib.hid hsn; clear hsn
            generalize many_ (num s.data.toList) k wd = L at *
            generalize q % M = r at *
            generalize q / M = q3 at *
            have hh8 : h - wd < 8 := by omega
            have hhs : (h : Int) - (wd : Int) = ((h - wd : Nat) : Int) := by omega
            go_wp2_with (first
              | (refine wpList_push_int rfl _ _ rfl w.heap.size _ L (r : Nat) wr.heap.size 1 rfl rfl (t := 3) (fr := (0, 0)) (heap_alloc_new wr _) (HO.out.alloc _) (by unfold few; have := HM.out; omega) (by have := hb.size; simp; omega) ?_; intro u wA hA hgA hatA; have HA := Lib.hid hA; clear hA))
            go_roundw
            case rel => exact ⟨k + 1, a, h - wd, q3, by omega, by go_num, hh8, rfl, rfl, ha, rfl, Lib.hid HTA.out, by rw [HSN.out]; exact HA.out, (hb.alloc hb.size _).grown hgA (by have := hb.size; simp; omega) (own_base HO.out)⟩
            case measure => simp [intOf]; omega
      · obtain rfl : k = m := by omega
        have h1 := hp.out.1
        rw [Nat.mul_comm wd k, ← HP.out] at h1
        have hae : a = s.size := by omega
        have htk : s.data.toList.take a = s.data.toList := List.take_of_length_le (by rw [HL.out, hae]; exact Nat.le_refl _)
        have hq := hp.out.2
        rw [htk] at hq
        have hsz : s.data.toList.length = (k * wd + 7) / 8 := by rw [HL.out, hlen, HP.out]
        by_cases h0 : q = 0
        · subst h0
          obtain ⟨e1, e2⟩ := unpack_ok hw16 HM.out hsz hq.symm
          have HE := Lib.hid (And.intro e1 e2)
          clear e1 e2 hq hsz htk hae h1 hp
          go_wp2
          go_ret2
          exact ⟨_, by rw [HR.out.2, HE.out.2]; rfl, by rw [HR.out.1, HE.out.1]; exact HO.out, hb⟩
        · obtain ⟨e1, e2⟩ := unpack_rest hw16 HM.out hsz (by rw [← hq]; exact h0)
          have HE := Lib.hid (And.intro e1 e2)
          have hqI : ((q : Int) != 0) = true := by rw [bne_iff_ne]; omega
          clear e1 e2 hq hsz htk hae h1 hp h0
          go_wp2
          go_ret2
          exact ⟨_, by rw [HR.out.2, HE.out.2]; rfl, by rw [HR.out.1, HE.out.1]; exact OwnI.nil _ _, hb⟩
  · obtain ⟨e1, e2⟩ := unpack_cut (s := s.data.toList) hw16 HM.out (by rw [hl, ← HP.out]; exact hlen)
    rw [e1, e2]
    clear e1 e2 hl
    have hleni : ((s.size : Int) != ((P : Int) + 7) / 8) = true := by rw [bne_iff_ne]; omega
    go_enter Tryz.func104, Tryz.ntmps104
    go_wp2
    go_ret2
    exact ⟨_, rfl, OwnI.nil _ _, Below.refl _ _⟩
end Go.Proofs.YtgmemdedpklnhaaGreat.Bitpack

/-
  THE WALK of boathouseref1.Unpack.
-/



namespace Go.Proofs.YtgmemdedpklnhaaGreat.Bitpack
open Go.RowKit BitMath Sl

theorem many_zero (m w : Nat) : many_ 0 m w = List.replicate m 0 := by
  refine List.ext_getElem (by simp [many_]) fun i h1 h2 => ?_
  simp [many_]
theorem many_get (n m w i : Nat) (h : i < m) : (many_ n m w).getD i 0 = ((n / 2 ^ (w * i) % 2 ^ w : Nat) : Int) := by
  rw [List.getD_eq_getElem?_getD, List.getElem?_eq_getElem (by rw [many_length]; exact h)]; simp [many_]
/-- A bit more laid. -/
theorem many_bit {x t b m w : Nat} (hx : x < 2 ^ t) (hb : b ≤ 1) (hw : 0 < w) (ht : t / w < m) :
    many_ (x + b * 2 ^ t) m w = (many_ x m w).set (t / w) ((x / 2 ^ (w * (t / w)) % 2 ^ w ||| b * 2 ^ (t % w) : Nat) : Int) ∧ x / 2 ^ (w * (t / w)) % 2 ^ w < 2 ^ (t % w) := by
  have hdm := Nat.div_add_mod t w
  have hr := Nat.mod_lt t hw
  generalize hq : t / w = q at *
  generalize hrr : t % w = r at *
  have hold : x / 2 ^ (w * q) < 2 ^ r := by
    refine Nat.div_lt_of_lt_mul ?_
    rw [← Nat.pow_add, hdm]; exact hx
  have hrw : 2 ^ r ≤ 2 ^ w := Nat.pow_le_pow_right (by omega) (by omega)
  have hmod : x / 2 ^ (w * q) % 2 ^ w = x / 2 ^ (w * q) := Nat.mod_eq_of_lt (by omega)
  refine ⟨?_, by rw [hmod]; exact hold⟩
  rw [hmod, or_bit hold]
  have hbm : b * 2 ^ r ≤ 1 * 2 ^ r := Nat.mul_le_mul_right _ hb
  have hpt : 2 ^ t = 2 ^ (w * q) * 2 ^ r := by rw [← Nat.pow_add, hdm]
  refine List.ext_getElem (by simp [many_]) fun i h1 h2 => ?_
  rw [List.getElem_set]
  have him : i < m := by rw [many_length] at h1; exact h1
  by_cases hi : q = i
  · subst hi
    rw [if_pos rfl]
    simp only [many_, List.getElem_map, List.getElem_range]
    congr 1
    rw [hpt, Nat.mul_comm b, Nat.mul_assoc, Nat.add_mul_div_left _ _ (Nat.pow_pos (by omega)), Nat.mul_comm (2 ^ r), Nat.mod_eq_of_lt]
    have : 2 ^ (r + 1) ≤ 2 ^ w := Nat.pow_le_pow_right (by omega) (by omega)
    rw [Nat.pow_succ] at this; omega
  · rw [if_neg hi]
    simp only [many_, List.getElem_map, List.getElem_range]
    congr 1
    rcases Nat.lt_or_ge i q with h | h
    · obtain ⟨d, rfl⟩ : ∃ d, q = i + 1 + d := ⟨q - (i + 1), by omega⟩
      have e : 2 ^ t = 2 ^ (w * i) * (2 ^ w * 2 ^ (w * d + r)) := by
        rw [← Nat.pow_add, ← Nat.pow_add, ← hdm]; congr 1
        rw [Nat.mul_add, Nat.mul_add, Nat.mul_one]; omega
      rw [e, Nat.mul_comm b, Nat.mul_assoc, Nat.add_mul_div_left _ _ (Nat.pow_pos (by omega)), Nat.mul_assoc, Nat.add_mul_mod_self_left]
    · have h1' : w * (q + 1) ≤ w * i := Nat.mul_le_mul_left _ (by omega)
      rw [Nat.mul_succ] at h1'
      have hle : 2 ^ (t + 1) ≤ 2 ^ (w * i) := Nat.pow_le_pow_right (by omega) (by omega)
      rw [Nat.pow_succ] at hle
      have hbt : b * 2 ^ t ≤ 1 * 2 ^ t := Nat.mul_le_mul_right _ hb
      rw [Nat.div_eq_of_lt (show x + b * 2 ^ t < 2 ^ (w * i) by omega), Nat.div_eq_of_lt (show x < 2 ^ (w * i) by omega)]
theorem bit_of_byte (A r : Nat) (hr : r < 8) : A % 256 / 2 ^ r % 2 = A / 2 ^ r % 2 := by
  have e : 256 = 2 ^ r * 2 ^ (8 - r) := by rw [← Nat.pow_add, show r + (8 - r) = 8 by omega]
  rw [e, Nat.mod_mul_right_div_self, Nat.mod_mod_of_dvd]
  exact ⟨2 ^ (8 - r - 1), by rw [Nat.mul_comm, ← Nat.pow_succ]; congr 1; omega⟩
theorem str_bit {l : List UInt8} {t : Nat} (ht : t / 8 < l.length) : byteAt l (t / 8) / 2 ^ (t % 8) % 2 = num l / 2 ^ t % 2 := by
  have e : byteAt l (t / 8) = num l / 256 ^ (t / 8) % 256 := num_at l _ ht
  rw [e, bit_of_byte _ _ (by omega), p256, Nat.div_div_eq_div_mul, ← Nat.pow_add, show 8 * (t / 8) + t % 8 = t by omega]
/-- What the loop of the document's Unpack holds. -/
def GotAt (n m w P t : Nat) (l : List Int) : Prop := l = many_ (n % 2 ^ t) m w ∧ (n % 2 ^ t) / 2 ^ P = 0
theorem GotAt.zero (n m w P : Nat) : GotAt n m w P 0 (List.replicate m 0) := ⟨by rw [Nat.pow_zero, Nat.mod_one, many_zero], by rw [Nat.pow_zero, Nat.mod_one, Nat.zero_div]⟩
theorem GotAt.bit {n m w P t : Nat} {l : List Int} (p : GotAt n m w P t l) (hw : 0 < w) (hP : P = m * w) (ht : t < P) (b : Nat) (hb : b = n / 2 ^ t % 2) :
    t / w < m ∧ l.getD (t / w) 0 = ((n % 2 ^ t / 2 ^ (w * (t / w)) % 2 ^ w : Nat) : Int) ∧ n % 2 ^ t / 2 ^ (w * (t / w)) % 2 ^ w < 2 ^ (t % w) ∧
    GotAt n m w P (t + 1) (l.set (t / w) ((n % 2 ^ t / 2 ^ (w * (t / w)) % 2 ^ w ||| b * 2 ^ (t % w) : Nat) : Int)) := by
  obtain ⟨rfl, _⟩ := p
  have htm : t / w < m := Nat.div_lt_of_lt_mul (by rw [Nat.mul_comm]; omega)
  have hlt : n % 2 ^ t < 2 ^ t := Nat.mod_lt _ (Nat.pow_pos (by omega))
  obtain ⟨h1, h2⟩ := many_bit (b := b) (m := m) hlt (by omega) hw htm
  refine ⟨htm, many_get _ _ _ _ htm, h2, ?_, ?_⟩
  · rw [bit_more, ← hb]; exact h1.symm
  · refine Nat.div_eq_of_lt (Nat.lt_of_lt_of_le (Nat.mod_lt _ (Nat.pow_pos (by omega))) (Nat.pow_le_pow_right (by omega) ht))
theorem GotAt.skip {n m w P t : Nat} {l : List Int} (p : GotAt n m w P t l) (hb : n / 2 ^ t % 2 = 0) : GotAt n m w P (t + 1) l := by
  unfold GotAt at p ⊢
  rw [bit_more, hb, Nat.zero_mul, Nat.add_zero]; exact p
theorem bad_bit {n P t : Nat} (ht : P ≤ t) (hb : n / 2 ^ t % 2 = 1) : n / 2 ^ P ≠ 0 := by
  intro h
  have : n / 2 ^ t = 0 := by
    rw [show t = P + (t - P) by omega, Nat.pow_add, ← Nat.div_div_eq_div_mul, h, Nat.zero_div]
  rw [this] at hb; omega
theorem GotAt.done {m w P : Nat} {s : List UInt8} {l : List Int} (p : GotAt (num s) m w P (8 * s.length) l) : l = many_ (num s) m w ∧ num s / 2 ^ P = 0 := by
  have hlt := num_lt s
  rw [p256] at hlt
  obtain ⟨h1, h2⟩ := p
  rw [Nat.mod_eq_of_lt hlt] at h1 h2
  exact ⟨h1, h2⟩

theorem or_win3 {q b r : Nat} (hq : q < 2 ^ r) (hb : b < 2) (hr : r < 16) : bits .or .i64 (q : Int) (wrap64 ((b : Int) * 2 ^ r)) = ((q ||| b * 2 ^ r : Nat) : Int) := (or_win2 hq (by omega) hr).1
set_option maxRecDepth 100000 in
set_option maxHeartbeats 8000000 in
theorem refUnpack_any (s : ByteArray) (many width : Int) (w : World) (hs : s.size ≤ maxReach) :
    Calls Tryz.prog 109 #[.string s, .int .i64 many, .int .i64 width] w fun e w' => ∃ v, e = .returned (.tuple #[v, .int .i64 (unpackE s.data.toList many width)]) ∧ OwnI w' w.heap.size v (unpackL s.data.toList many width) ∧ Below w.heap.size w w' := by
  unfold maxReach at hs
  by_cases hw : wide width
  · obtain ⟨e1, e2⟩ := unpack_wide (s := s.data.toList) (many := many) hw
    rw [e1, e2]
    unfold wide at hw
    clear e1 e2
    go_enter Tryz.func109, Tryz.ntmps109
    by_cases h0 : width < 0
    · go_wp2
      go_ret2
      exact ⟨_, rfl, OwnI.nil _ _, Below.refl _ _⟩
    · have h1 : 16 < width := by omega
      go_wp2
      go_ret2
      exact ⟨_, rfl, OwnI.nil _ _, Below.refl _ _⟩
  by_cases hr : many < 0 ∨ 65536 < many
  · obtain ⟨e1, e2⟩ := unpack_range (s := s.data.toList) hw hr
    rw [e1, e2]
    unfold wide at hw
    clear e1 e2
    have k1 : ¬ width < 0 := by omega
    have k2 : ¬ 16 < width := by omega
    clear hw
    go_enter Tryz.func109, Tryz.ntmps109
    by_cases h0 : many < 0
    · go_wp2
      go_ret2
      exact ⟨_, rfl, OwnI.nil _ _, Below.refl _ _⟩
    · have h1 : 65536 < many := by omega
      go_wp2
      go_ret2
      exact ⟨_, rfl, OwnI.nil _ _, Below.refl _ _⟩
  obtain ⟨wd, rfl⟩ : ∃ wd : Nat, width = (wd : Nat) := ⟨width.toNat, by unfold wide at hw; omega⟩
  have hw16 : wd ≤ 16 := by unfold wide at hw; omega
  obtain ⟨m, rfl⟩ : ∃ m : Nat, many = (m : Nat) := ⟨many.toNat, by omega⟩
  have hm : m ≤ 65536 := by omega
  have hmI : (m : Int) ≤ 65536 := by omega
  clear hw hr
  obtain ⟨P, hP⟩ : ∃ P, P = m * wd := ⟨_, rfl⟩
  have hPl : P ≤ 1048576 := by rw [hP]; exact Nat.le_trans (Nat.mul_le_mul hm hw16) (by omega)
  have hPlI : (P : Int) ≤ 1048576 := by omega
  have hPI : (m : Int) * (wd : Int) = (P : Int) := by rw [hP]; push_cast; rfl
  have HM := Lib.hid hm; clear hm
  have HP := Lib.hid hP; clear hP
  have HPL := Lib.hid hPl; clear hPl
  have hl : s.data.toList.length = s.size := by simp
  by_cases hlen : s.size = (P + 7) / 8
  · have hleni : ((s.size : Int) != ((P : Int) + 7) / 8) = false := by rw [bne_eq_false_iff_eq]; omega
    obtain ⟨LL, hLL⟩ : ∃ LL, LL = unpackL s.data.toList m wd := ⟨_, rfl⟩
    obtain ⟨E, hE⟩ : ∃ E, E = unpackE s.data.toList m wd := ⟨_, rfl⟩
    rw [← hLL, ← hE]
    have HR := Lib.hid (And.intro hLL hE); clear hLL hE
    have hsz : s.data.toList.length = (m * wd + 7) / 8 := by rw [hl, hlen, HP.out]
    have HSZ := Lib.hid (And.intro hsz hl); clear hsz hl
    have HLEN := Lib.hid hlen; clear hlen
    go_enter Tryz.func109, Tryz.ntmps109
    go_wp2_with (first
      | (at_make; refine wpList_make_ints rfl _ _ rfl w.heap.size .i64 .i64 _ _ m rfl rfl rfl rfl (by have := HM.out; omega) (Nat.le_refl _) ?_; intro w1 hO1 hg1 hsz1))
    have hb1 : Below w.heap.size w w1 := (Below.refl _ _).grown hg1 (Nat.le_refl _) (fun j hj => by cases hj)
    go_loopw [9] (fun tv wr => ∃ (t : Nat) (l : List Int), t ≤ 8 * s.size ∧ tv = .int .i64 t ∧ l.length = m ∧ Hid (GotAt (num s.data.toList) m wd P t l) ∧ OwnI wr w.heap.size (.slice (some ⟨w.heap.size, 0, none⟩) m m) l ∧ Below w.heap.size w wr) (fun tv _ => 8 * s.size - (intOf tv).toNat)
    case atStart => exact ⟨0, List.replicate m 0, by omega, rfl, by simp, Lib.hid (GotAt.zero _ _ _ _), hO1, hb1⟩
    case round =>
      obtain ⟨t, l, ht, rfl, hll, hp, hO, hb⟩ := hrel
      have HO := Lib.hid hO; clear hO
      by_cases hts : t < 8 * s.size
      · have ht8 : t / 8 < s.size := by omega
        have hat := run_at s ((t : Int) / 8) (t / 8) (by omega) ht8
        have hbit := str_bit (l := s.data.toList) (t := t) (by rw [HSZ.out.2]; exact ht8)
        have hy := byteAt_lt s.data.toList (t / 8)
        have htM : (t : Int) % 8 = ((t % 8 : Nat) : Int) := by omega
        have h8 : t % 8 < 8 := Nat.mod_lt _ (by omega)
        obtain ⟨b, hb2⟩ : ∃ b, b = num s.data.toList / 2 ^ t % 2 := ⟨_, rfl⟩
        have hbl : b < 2 := by omega
        rw [← hb2] at hbit
        generalize byteAt s.data.toList (t / 8) = y at *
        generalize t % 8 = tm at *
        have hand : bits .and .u8 ((y : Int) / 2 ^ tm) 1 = (b : Int) := by
          have e : ((y : Int) / 2 ^ tm) = ((y / 2 ^ tm : Nat) : Int) := by push_cast; rfl
          have hlt : y / 2 ^ tm < 256 := Nat.lt_of_le_of_lt (Nat.div_le_self _ _) hy
          have := and_u8 (y / 2 ^ tm) 1 hlt (by omega)
          rw [and1, hbit] at this
          rw [e]; exact this
        have HB := Lib.hid hb2; clear hb2 hbit
        by_cases htP : t < P
        · have hw0 : 0 < wd := by
            rcases Nat.eq_zero_or_pos wd with h | h
            · exfalso; rw [HP.out, h, Nat.mul_zero] at htP; omega
            · exact h
          obtain ⟨g1, g2, g3, g4⟩ := hp.out.bit hw0 HP.out htP b HB.out
          obtain ⟨hc1, hf1⟩ := own_int_at HO.out hll (t / wd) g1
          rw [g2] at hc1
          have hrl := Nat.mod_lt t hw0
          have hqI : (t : Int) / (wd : Int) = ((t / wd : Nat) : Int) := by push_cast; rfl
          have hqT : (t : Int).tdiv (wd : Int) = ((t / wd : Nat) : Int) := rfl
          have hrI : (t : Int) % (wd : Int) = ((t % wd : Nat) : Int) := by push_cast; rfl
          have hrT : (t : Int).tmod (wd : Int) = ((t % wd : Nat) : Int) := rfl
          have hst := or_win3 (q := num s.data.toList % 2 ^ t / 2 ^ (wd * (t / wd)) % 2 ^ wd) (b := b) (r := t % wd) g3 hbl (by omega)
          generalize num s.data.toList % 2 ^ t / 2 ^ (wd * (t / wd)) % 2 ^ wd = old at *
          generalize t / wd = q at *
          generalize t % wd = r at *
          have HG4 := Lib.hid (And.intro g4 g3); clear g4 g2 g3
          have hwI : (0 : Int) < (wd : Int) := by omega
          generalize hnw : old ||| b * 2 ^ r = nw at *
          clear hnw
          go_wp2
          go_region
          go_wp2
          go_roundw
          case rel => exact ⟨t + 1, _, by omega, by go_num, by rw [List.length_set]; exact hll, Lib.hid HG4.out.1, (Mem.own_put_int HO.out hll q _).drew, (hb.setCell (p := ⟨w.heap.size, q, none⟩) (Nat.le_refl _) _).drew⟩
          case measure => simp [intOf]; omega
        · have htPI : (P : Int) ≤ (t : Int) := by omega
          by_cases hb1 : b = 1
          · obtain ⟨e1, e2⟩ := unpack_rest hw16 HM.out HSZ.out.1 (by rw [Nat.mul_comm wd m, ← HP.out]; exact bad_bit (t := t) (P := P) (by omega) (by rw [← HB.out]; exact hb1))
            have HE := Lib.hid (And.intro e1 e2); clear e1 e2
            subst hb1
            go_wp2
            go_ret2
            exact ⟨_, by rw [HR.out.2, HE.out.2]; rfl, by rw [HR.out.1, HE.out.1]; exact OwnI.nil _ _, hb⟩
          · obtain rfl : b = 0 := by omega
            have hsk := hp.out.skip HB.out.symm
            have HSK := Lib.hid hsk; clear hsk hb1
            go_wp2
            go_roundw
            case rel => exact ⟨t + 1, l, by omega, by go_num, hll, HSK, HO.out, hb⟩
            case measure => simp [intOf]; omega
      · obtain rfl : t = 8 * s.size := by omega
        have hd : l = many_ (num s.data.toList) m wd ∧ num s.data.toList / 2 ^ P = 0 := GotAt.done (by rw [HSZ.out.2]; exact hp.out)
        obtain ⟨e1, e2⟩ := unpack_ok hw16 HM.out HSZ.out.1 (by rw [Nat.mul_comm wd m, ← HP.out]; exact hd.2)
        have HE := Lib.hid (And.intro e1 (And.intro e2 hd.1)); clear e1 e2 hd hp
        go_wp2
        go_ret2
        exact ⟨_, by rw [HR.out.2, HE.out.2.1]; rfl, by rw [HR.out.1, HE.out.1, ← HE.out.2.2]; have := HO.out; exact this, hb⟩
  · obtain ⟨e1, e2⟩ := unpack_cut (s := s.data.toList) hw16 HM.out (by rw [hl, ← HP.out]; exact hlen)
    rw [e1, e2]
    clear e1 e2 hl
    have hleni : ((s.size : Int) != ((P : Int) + 7) / 8) = true := by rw [bne_iff_ne]; omega
    go_enter Tryz.func109, Tryz.ntmps109
    go_wp2
    go_ret2
    exact ⟨_, rfl, OwnI.nil _ _, Below.refl _ _⟩
end Go.Proofs.YtgmemdedpklnhaaGreat.Bitpack

/-
  THE WALKS of the readers: packed.
-/



namespace Go.Proofs.YtgmemdedpklnhaaGreat.Vec
open Go.RowKit ValMath Vals Sl VecMath Words

theorem many_iat (x m w : Nat) : BitMath.many_ x m w = iat ((List.range m).map fun i => x / 2 ^ (w * i) % 2 ^ w) := by
  unfold BitMath.many_ iat
  rw [List.map_map]; rfl
theorem unpack_same {l : List UInt8} {m w : Nat} (hw : w ≤ 16) (hm : m ≤ 65536) :
    (∃ xs, unpack l m w = some xs ∧ BitMath.unpackL l m w = iat xs ∧ BitMath.unpackE l m w = 0) ∨ (unpack l m w = none ∧ BitMath.unpackL l m w = iat [] ∧ (BitMath.unpackE l m w != 0) = true) := by
  unfold unpack
  have hp : 0 < 2 ^ (m * w) := Nat.pow_pos (by omega)
  by_cases h1 : l.length = (m * w + 7) / 8
  · by_cases h2 : BitMath.num l < 2 ^ (m * w)
    · have hz : BitMath.num l / 2 ^ (w * m) = 0 := by rw [Nat.mul_comm w m]; exact Nat.div_eq_of_lt h2
      obtain ⟨e1, e2⟩ := BitMath.unpack_ok hw hm h1 hz
      rw [if_pos ⟨h1, h2⟩]
      exact .inl ⟨_, rfl, by rw [e1, many_iat], e2⟩
    · have hz : BitMath.num l / 2 ^ (w * m) ≠ 0 := by
        rw [Nat.mul_comm w m]
        intro e
        rcases Nat.div_eq_zero_iff.1 e with h | h
        · omega
        · exact h2 h
      obtain ⟨e1, e2⟩ := BitMath.unpack_rest hw hm h1 hz
      rw [if_neg (fun h => h2 h.2)]
      exact .inr ⟨rfl, by rw [e1]; rfl, by rw [e2]; rfl⟩
  · obtain ⟨e1, e2⟩ := BitMath.unpack_cut hw hm h1
    rw [if_neg (fun h => h1 h.1)]
    exact .inr ⟨rfl, by rw [e1]; rfl, by rw [e2]; rfl⟩
theorem rdPackedP_okR {m w : Nat} {r : Rd} (h : OkR r) : OkR (rdPackedP m w r).2 := by
  unfold rdPackedP
  split
  · exact rdBytes_okR h
  · exact (rdBytes_okR h).fail
theorem own_le {w : World} {B B' z n : Nat} {e : TypeId} {v : Value} {xs : List Value} (h : w.ownsRow B' e z v n xs) (hb : B ≤ B') : w.ownsRow B e z v n xs := by
  refine ⟨h.1, ?_⟩
  rcases h.2 with h2 | ⟨g, c, cur, h1, h2, h3⟩
  · exact .inl h2
  · exact .inr ⟨g, c, cur, h1, Nat.le_trans hb h2, h3⟩
set_option maxRecDepth 20000 in
set_option maxHeartbeats 4000000 in
theorem packed_any (g m wd : Nat) (r : Rd) (w : World) (h : Rdr 88 w g r) (ok : OkR r) (hm : m ≤ 4096) (hwd : wd ≤ 16) :
    Calls Tryz.prog 76 #[.pointer (some ⟨g, 0, none⟩), .int .i64 (m : Nat), .int .i64 (wd : Nat)] w fun e w' => ∃ v, e = .returned v ∧ OwnI w' w.heap.size v (iat (rdPackedP m wd r).1) ∧ Rdr 88 w' g (rdPackedP m wd r).2 ∧ w.grownBy w' (some g) := by
  have hmw : m * wd ≤ 4096 * 16 := Nat.mul_le_mul hm hwd
  have hB : ∀ (z : Int) w, z = (((m * wd + 7) / 8 : Nat) : Int) → Rdr 88 w g r → Calls Tryz.prog 46 #[.pointer (some ⟨g, 0, none⟩), .int .i64 z] w fun e w' => e = .returned (.string (str (rdBytes ((m * wd + 7) / 8) r).1)) ∧ Rdr 88 w' g (rdBytes ((m * wd + 7) / 8) r).2 ∧ w.grownBy w' (some g) := fun z w hz h => by rw [hz]; exact bytes_any g ((m * wd + 7) / 8) r w h ok (by omega)
  have ok2 := rdBytes_okR (n := (m * wd + 7) / 8) ok
  have hrp : rdPackedP m wd r = (match unpack (rdBytes ((m * wd + 7) / 8) r).1 m wd with | some xs => (xs, (rdBytes ((m * wd + 7) / 8) r).2) | none => ([], (rdBytes ((m * wd + 7) / 8) r).2.fail)) := rfl
  rw [hrp]
  clear hrp
  have hlen : (rdBytes ((m * wd + 7) / 8) r).1.length ≤ 8200 := by
    unfold rdBytes
    split
    · simp
    · simp only []; rw [List.length_take]; omega
  have hq0 : (m : Int) * (wd : Int) = ((m * wd : Nat) : Int) := by push_cast; rfl
  have hq1 : IntKind.i64.wrap ((m : Int) * (wd : Int)) = (m : Int) * (wd : Int) := by rw [hq0]; exact IntWalk.i64_in _ (by omega)
  have hq2 : IntKind.i64.wrap ((m : Int) * (wd : Int) + 7) = (m : Int) * (wd : Int) + 7 := by rw [hq0]; exact IntWalk.i64_in _ (by omega)
  have hq3 : (0 : Int) ≤ (m : Int) * (wd : Int) + 7 := by rw [hq0]; omega
  have hnb : wrap64 (Int.tdiv ((m : Int) * (wd : Int) + 7) 8) = (((m * wd + 7) / 8 : Nat) : Int) := by
    rw [Int.tdiv_eq_ediv_of_nonneg hq3, show ((m : Int) * (wd : Int) + 7) / 8 = (((m * wd + 7) / 8 : Nat) : Int) by push_cast; rfl]
    unfold wrap64; omega
  clear hq0 hq3
  generalize rdBytes ((m * wd + 7) / 8) r = X at *
  obtain ⟨l, r2⟩ := X
  simp only [] at hB ok2 hlen ⊢
  have hU := fun w => Bitpack.unpack_any (str l) (m : Nat) (wd : Nat) w (by rw [str_size]; unfold maxReach; omega)
  rw [str_list] at hU
  have hcase := unpack_same (l := l) hwd (show m ≤ 65536 by omega)
  generalize BitMath.unpackL l m wd = UL at *
  generalize BitMath.unpackE l m wd = UE at *
  have H := Lib.hid h
  have hg := h.lt
  clear h
  have HB := Lib.hid hB; clear hB
  have HU := Lib.hid hU; clear hU
  generalize (m * wd + 7) / 8 = nb at *
  have HNB := Lib.hid hnb; clear hnb
  clear hlen hmw
  rcases hcase with ⟨xs, e1, rfl, rfl⟩ | ⟨e1, rfl, hne⟩
  · rw [e1]
    simp only []
    clear e1
    go_enter Tryz.func76, Tryz.ntmps76
    go_wp2_with (first
      | (go_at_call 46; (with_reducible refine (HB.out _ _ HNB.out H.out).mono ?_); rintro e w1 ⟨rfl, hR1, hg1⟩)
      | (go_at_call 104; (with_reducible refine (HU.out _).mono ?_); rintro e w2 ⟨v, rfl, hO, hb2⟩; have HO := Lib.hid hO; clear hO))
    go_ret
    exact ⟨_, rfl, own_le HO.out hg1.size, hR1.below hb2, grown_then hg1 (World.grownBy.but (MapV.grown_of_below hb2) _)⟩
  · rw [e1]
    simp only []
    clear e1
    go_enter Tryz.func76, Tryz.ntmps76
    go_wp2_with (first
      | (go_at_call 46; (with_reducible refine (HB.out _ _ HNB.out H.out).mono ?_); rintro e w1 ⟨rfl, hR1, hg1⟩)
      | (go_at_call 104; (with_reducible refine (HU.out _).mono ?_); rintro e w2 ⟨v, rfl, hO, hb2⟩; have HO := Lib.hid hO; clear hO; have hR2 := hR1.below hb2; have z2 := hR2.cells.2.2; have f2 := hR2.free 2))
    go_ret
    exact ⟨_, rfl, own_set (own_le HO.out (Nat.le_refl _)) (Nat.lt_of_lt_of_le hg hg1.size) |> fun h => own_le h hg1.size, hR2.fail, grown_then (grown_then hg1 (World.grownBy.but (MapV.grown_of_below hb2) _)) (grown_one _ _ _ _)⟩
end Go.Proofs.YtgmemdedpklnhaaGreat.Vec

/-
  THE WALKS of the readers: some, one by one.
-/


namespace Go.Proofs.YtgmemdedpklnhaaGreat.Vec
open Go.RowKit ValMath Vals Sl VecMath Words

theorem rdPackedP_len (m w : Nat) (r : Rd) : (rdPackedP m w r).1.length ≤ m := by
  unfold rdPackedP
  cases h : unpack (rdBytes ((m * w + 7) / 8) r).1 m w with
  | none => simp
  | some xs => simp only []; rw [unpack_length h]; exact Nat.le_refl _
theorem readVals_okR (k : Int) (n : Nat) {r : Rd} (ok : OkR r) : OkR (readVals k n r).2 := by
  induction n with
  | zero => exact ok
  | succ n ih => exact rdVal_okR ih
theorem grown_step {w a b : World} {g : Nat} {row : Option Nat} (h : w.grownBy a (some g)) (k : a.grownBy b row) (hr : ∀ j, row = some j → w.heap.size ≤ j) : w.grownBy b (some g) := h.andThen k (fun j hj => .inl (hr j hj))
theorem own_ne {w : World} {B z n g : Nat} {e : TypeId} {v : Value} {xs : List Value} (h : w.ownsRow B e z v n xs) (hg : g < B) : v.ownBlock ≠ some g := fun e => by have := own_base h g e; omega
set_option maxRecDepth 20000 in
set_option maxHeartbeats 4000000 in
theorem some0_any (k : Int) (g many : Nat) (r : Rd) (w : World) (hk : k = 1 ∨ k = 3) (h : Rdr 88 w g r) (ok : OkR r) (hm : many ≤ 4096) :
    Calls Tryz.prog 77 #[.pointer (some ⟨g, 0, none⟩), .int .i64 k, .int .i64 0, .int .i64 (many : Nat)] w fun e w' => ∃ v, e = .returned v ∧ OwnV w' w.heap.size v (readVals k many r).1 ∧ Rdr 88 w' g (readVals k many r).2 ∧ w.grownBy w' (some g) := by
  have hk2 : (k == 2) = false := by rcases hk with rfl | rfl <;> rfl
  have hk3 : k = 1 ∨ k = 2 ∨ k = 3 := by rcases hk with rfl | rfl <;> simp
  have hg := h.lt
  have HK := Lib.hid (And.intro hk3 ok); clear hk hk3 ok
  have H := Lib.hid h; clear h
  go_enter Tryz.func77, Tryz.ntmps77
  go_wp2
  go_loopw [9, 41] (fun tv iv wr => ∃ q : Nat, q ≤ many ∧ iv = .int .i64 q ∧ OwnV wr w.heap.size tv (readVals k q r).1 ∧ Rdr 88 wr g (readVals k q r).2 ∧ w.grownBy wr (some g)) (fun _ iv _ => many - (intOf iv).toNat)
  case atStart => exact ⟨0, Nat.zero_le _, rfl, OwnV.nil _ _, H.out, World.grownBy.refl _ _⟩
  case round =>
    clear H
    obtain ⟨q, hq, rfl, hO, hR, hgr⟩ := hrel
    have hml := readVals_length k q r
    obtain ⟨A9, c9, rfl, _, _⟩ := hO.form' (n := q) hml
    by_cases hlt : q < many
    · have hrs : readVals k (q + 1) r = ((readVals k q r).1 ++ [(rdVal k (readVals k q r).2).1], (rdVal k (readVals k q r).2).2) := rfl
      have hS := fun w h => scalarR_any k g (readVals k q r).2 w HK.out.1 h (readVals_okR k q HK.out.2)
      have hfl : (readVals k q r).1.length < few := by rw [hml]; unfold few; omega
      generalize readVals k q r = X at *
      obtain ⟨O, r2⟩ := X
      simp only [] at hrs hS hO hR hml hfl
      generalize rdVal k r2 = Y at *
      obtain ⟨⟨ku, iu, bu, su⟩, r3⟩ := Y
      simp only [vagg] at hrs hS
      have HS := Lib.hid hS; clear hS
      have HRS := Lib.hid (And.intro hrs (And.intro hml hfl)); clear hrs hml hfl
      have HO := Lib.hid hO; clear hO
      have HR := Lib.hid hR; clear hR
      have HG := Lib.hid hgr; clear hgr
      have hsz := HG.out.size
      go_wp2_with (first
        | (go_at_call 105; (with_reducible refine (HS.out _ HR.out).mono ?_); rintro e w1 ⟨rfl, hR1, hg1⟩; have HR1 := Lib.hid hR1; have HO1 := Lib.hid (HO.out.keepB hg1 (own_ne HO.out hg)); have HG1 := Lib.hid (grown_then HG.out hg1); clear hR1 hg1; have hsz1 := HG1.out.size)
        | (at_builtin; (refine wpList_push_val rfl (.tmp 43) (.tmp 47) rfl w.heap.size (.slice A9 q c9) O ⟨ku, iu, bu, su⟩ w1.heap.size 1 rfl rfl (t := 71) (fr := (0, 0)) (heap_alloc_new w1 (.cells #[.int .i64 ku, .int .i64 iu, .bool bu, .string su] 71)) (HO1.out.alloc (.cells #[.int .i64 ku, .int .i64 iu, .bool bu, .string su] 71)) HRS.out.2.2 (by simp; omega) ?_; intro u2 wB hI2 hgB hatB)))
      go_roundw
      case rel => exact ⟨q + 1, by omega, by go_num, by rw [HRS.out.1]; exact hI2, by rw [HRS.out.1]; exact (HR1.out.alloc _).grown hgB (fun e => own_ne HO1.out hg e.symm), grown_step (grown_then HG1.out (World.grownBy_alloc _ _ _)) hgB (own_base HO1.out)⟩
      case measure => simp [intOf]; omega
    · obtain rfl : q = many := by omega
      go_wp2
      go_ret
      exact ⟨_, rfl, hO, hR, hgr⟩
theorem iat_take {xs : List Nat} {q x : Nat} (h : xs[q]? = some x) (f : Nat → Val) : (xs.take (q + 1)).map f = (xs.take q).map f ++ [f x] := by rw [List.take_add_one, h, List.map_append]; rfl
theorem iat_get {xs : List Nat} {q : Nat} {y : Int} (h : (iat xs)[q]? = some y) : ∃ x : Nat, y = x ∧ xs[q]? = some x := by
  unfold iat at h
  rw [List.getElem?_map] at h
  cases hx : xs[q]? with
  | none => rw [hx] at h; cases h
  | some x => rw [hx] at h; injection h with h; exact ⟨x, h.symm, rfl⟩
theorem eq_one (x : Nat) : (((x : Nat) : Int) == 1) = decide (x = 1) := by by_cases h : x = 1 <;> simp [h]; omega
set_option maxRecDepth 20000 in
set_option maxHeartbeats 4000000 in
theorem someB_any (g many : Nat) (r : Rd) (w : World) (h : Rdr 88 w g r) (ok : OkR r) (hm : many ≤ 4096) :
    Calls Tryz.prog 77 #[.pointer (some ⟨g, 0, none⟩), .int .i64 2, .int .i64 0, .int .i64 (many : Nat)] w fun e w' => ∃ v, e = .returned v ∧ OwnV w' w.heap.size v ((rdPackedP many 1 r).1.map fun x => ⟨2, 0, decide (x = 1), ByteArray.empty⟩) ∧ Rdr 88 w' g (rdPackedP many 1 r).2 ∧ w.grownBy w' (some g) := by
  have hg := h.lt
  have hP : ∀ w, Rdr 88 w g r → Calls Tryz.prog 76 #[.pointer (some ⟨g, 0, none⟩), .int .i64 (many : Nat), .int .i64 1] w fun e w' => ∃ v, e = .returned v ∧ OwnI w' w.heap.size v (iat (rdPackedP many 1 r).1) ∧ Rdr 88 w' g (rdPackedP many 1 r).2 ∧ w.grownBy w' (some g) := fun w h => packed_any g many 1 r w h ok hm (by omega)
  have hle := rdPackedP_len many 1 r
  generalize rdPackedP many 1 r = X at *
  obtain ⟨xs, r2⟩ := X
  simp only [] at hP hle ⊢
  have HP := Lib.hid hP; clear hP ok
  have H := Lib.hid h; clear h
  go_enter Tryz.func77, Tryz.ntmps77
  go_wp2_with (go_at_call 76; (with_reducible refine (HP.out _ H.out).mono ?_); rintro e w1 ⟨v, rfl, hI, hR, hgr⟩; obtain ⟨A5, c5, rfl, _, _, _⟩ := hI.form (n := xs.length) (iat_length xs); have HI := Lib.hid hI; have HR := Lib.hid hR; have HG := Lib.hid hgr; clear hI hR hgr)
  go_loopw [9, 27] (fun tv iv wr => ∃ q : Nat, q ≤ xs.length ∧ iv = .int .i64 q ∧ OwnV wr w.heap.size tv ((xs.take q).map fun x => ⟨2, 0, decide (x = 1), ByteArray.empty⟩) ∧ OwnI wr w.heap.size (.slice A5 xs.length c5) (iat xs) ∧ Rdr 88 wr g r2 ∧ w.grownBy wr (some g)) (fun _ iv _ => xs.length - (intOf iv).toNat)
  case atStart => exact ⟨0, Nat.zero_le _, rfl, OwnV.nil _ _, HI.out, HR.out, HG.out⟩
  case round =>
    clear HI HR HG H HP
    obtain ⟨q, hq, rfl, hO, hI, hR, hgr⟩ := hrel
    have hml : ((xs.take q).map fun x => (⟨2, 0, decide (x = 1), ByteArray.empty⟩ : Val)).length = q := by rw [List.length_map, List.length_take]; omega
    obtain ⟨A9, c9, rfl, _, _⟩ := hO.form' (n := q) hml
    by_cases hlt : q < xs.length
    · obtain ⟨b1, o1, y, hy, rfl, hb1, c0⟩ := (hI.sl (iat_length xs)).at_ hlt
      obtain ⟨x, rfl, hx⟩ := iat_get hy
      have hts := iat_take hx (fun x => (⟨2, 0, decide (x = 1), ByteArray.empty⟩ : Val))
      have he := eq_one x
      have hfl : ((xs.take q).map fun x => (⟨2, 0, decide (x = 1), ByteArray.empty⟩ : Val)).length < few := by rw [hml]; unfold few; omega
      generalize ((xs.take q).map fun x => (⟨2, 0, decide (x = 1), ByteArray.empty⟩ : Val)) = O at *
      generalize decide (x = 1) = bt at *
      have HRS := Lib.hid (And.intro hts (And.intro hml hfl)); clear hts hml hfl hx hy
      have HO := Lib.hid hO; clear hO
      have HR := Lib.hid hR; clear hR
      have HI := Lib.hid hI; clear hI
      have HG := Lib.hid hgr; clear hgr
      have hsz := HG.out.size
      go_wp2_with (at_builtin; (refine wpList_push_val rfl (.tmp 31) (.tmp 36) rfl w.heap.size (.slice A9 q c9) O ⟨2, 0, bt, ByteArray.empty⟩ wr.heap.size 1 rfl rfl (t := 71) (fr := (0, 0)) (heap_alloc_new wr (.cells #[.int .i64 2, .int .i64 0, .bool bt, .string ByteArray.empty] 71)) (HO.out.alloc (.cells #[.int .i64 2, .int .i64 0, .bool bt, .string ByteArray.empty] 71)) HRS.out.2.2 (by simp; omega) ?_; intro u2 wB hI2 hgB hatB))
      go_roundw
      case rel => exact ⟨q + 1, by omega, by go_num, by rw [HRS.out.1]; exact hI2, (HI.out.alloc _).keepV (HO.out.alloc _) hgB, (HR.out.alloc _).grown hgB (fun e => own_ne HO.out hg e.symm), grown_step (grown_then HG.out (World.grownBy_alloc _ _ _)) hgB (own_base HO.out)⟩
      case measure => simp [intOf]; omega
    · obtain rfl : q = xs.length := by omega
      rw [List.take_of_length_le (Nat.le_refl _)] at hO
      go_wp2
      go_ret
      exact ⟨_, rfl, hO, hR, hgr⟩
end Go.Proofs.YtgmemdedpklnhaaGreat.Vec

/-
  THE WALKS of the readers: some, by words.
-/


namespace Go.Proofs.YtgmemdedpklnhaaGreat.Vec
open Go.RowKit ValMath Vals Sl VecMath Words

theorem rdBytes_len (n : Nat) (r : Rd) : (rdBytes n r).1.length ≤ n := by
  unfold rdBytes
  split
  · simp
  · simp only []; rw [List.length_take]; omega
theorem rdVal_fine {k : Int} (hk : k = 1 ∨ k = 2 ∨ k = 3) (r : Rd) : Fine (rdVal k r).1 ∧ (rdVal k r).1.s.size ≤ 64 := by
  have hi := rdVal_i64 k r
  have key : (-9223372036854775808 ≤ (rdVal k r).1.k ∧ (rdVal k r).1.k < 9223372036854775808) ∧ (rdVal k r).1.s.size ≤ 64 := by
    rcases hk with rfl | rfl | rfl
    · rw [rdVal_one]; split
      · exact ⟨⟨show (-9223372036854775808 : Int) ≤ 0 by decide, show (0 : Int) < 9223372036854775808 by decide⟩, Nat.zero_le _⟩
      · exact ⟨⟨show (-9223372036854775808 : Int) ≤ 1 by decide, show (1 : Int) < 9223372036854775808 by decide⟩, Nat.zero_le _⟩
    · rw [rdVal_two]; exact ⟨⟨show (-9223372036854775808 : Int) ≤ 2 by decide, show (2 : Int) < 9223372036854775808 by decide⟩, Nat.zero_le _⟩
    · rw [rdVal_three]
      refine ⟨⟨show (-9223372036854775808 : Int) ≤ 3 by decide, show (3 : Int) < 9223372036854775808 by decide⟩, ?_⟩
      have h1 := rdBytes_len (rdNum 64 r).1 (rdNum 64 r).2
      have h2 := rdNum_le 64 r
      show (rdBytes (rdNum 64 r).1 (rdNum 64 r).2).1.toArray.size ≤ 64
      rw [List.size_toArray]; omega
  exact ⟨⟨key.1.1, key.1.2, hi.1, hi.2, by omega⟩, key.2⟩
theorem readVals_fine {k : Int} (hk : k = 1 ∨ k = 2 ∨ k = 3) (n : Nat) (r : Rd) : ∀ v ∈ (readVals k n r).1, Fine v := by
  induction n with
  | zero => intro v hv; simp [readVals] at hv
  | succ n ih =>
    intro v hv
    simp only [readVals, List.mem_append, List.mem_singleton] at hv
    rcases hv with hv | rfl
    · exact ih v hv
    · exact (rdVal_fine hk _).1
theorem Rdr.bad {T : TypeId} {w : World} {g : Nat} {r : Rd} (h : Rdr T w g r) (b : Bool) : Rdr T (w.setCell ⟨g, 2, none⟩ (.bool b)) g ⟨r.s, r.at_, b⟩ := set_heap h
set_option maxRecDepth 20000 in
set_option maxHeartbeats 8000000 in
theorem some2_any (k : Int) (g many : Nat) (r : Rd) (w : World) (hk : k = 1 ∨ k = 2 ∨ k = 3) (h : Rdr 88 w g r) (ok : OkR r) (hm : many ≤ 4096) :
    Calls Tryz.prog 77 #[.pointer (some ⟨g, 0, none⟩), .int .i64 k, .int .i64 2, .int .i64 (many : Nat)] w fun e w' => ∃ v, e = .returned v ∧ OwnV w' w.heap.size v (wordsP k many r).1 ∧ Rdr 88 w' g (wordsP k many r).2 ∧ w.grownBy w' (some g) := by
  have hg := h.lt
  have hN := fun w h => num_any g many r w h ok
  have hle := rdNum_le many r
  have ok2 := rdNum_okR (m := many) ok
  have hwp : wordsP k many r = (match ValMath.look (readVals k (rdNum many r).1 (rdNum many r).2).1 (iat (rdPackedP many (width ((readVals k (rdNum many r).1 (rdNum many r).2).1.length - 1)) (readVals k (rdNum many r).1 (rdNum many r).2).2).1) with
    | some out => (out, (rdPackedP many (width ((readVals k (rdNum many r).1 (rdNum many r).2).1.length - 1)) (readVals k (rdNum many r).1 (rdNum many r).2).2).2)
    | none => ([], (rdPackedP many (width ((readVals k (rdNum many r).1 (rdNum many r).2).1.length - 1)) (readVals k (rdNum many r).1 (rdNum many r).2).2).2.fail)) := rfl
  generalize rdNum many r = X at *
  obtain ⟨c, r2⟩ := X
  simp only [] at hN hle ok2 hwp
  rw [readVals_length] at hwp
  have HWP := Lib.hid hwp; clear hwp
  have HK := Lib.hid (And.intro hk ok2); clear hk ok ok2
  have HN := Lib.hid hN; clear hN
  have H := Lib.hid h; clear h
  go_enter Tryz.func77, Tryz.ntmps77
  go_wp2_with (go_at_call 43; (with_reducible refine (HN.out _ H.out).mono ?_); rintro e w1 ⟨rfl, hR, hgr⟩; have HR := Lib.hid hR; have HG := Lib.hid hgr; clear hR hgr)
  clear H HN
  go_loopw [14, 98] (fun tv iv wr => ∃ q : Nat, q ≤ c ∧ iv = .int .i64 q ∧ OwnV wr w.heap.size tv (readVals k q r2).1 ∧ Rdr 88 wr g (readVals k q r2).2 ∧ w.grownBy wr (some g)) (fun _ iv _ => c - (intOf iv).toNat)
  case atStart => exact ⟨0, Nat.zero_le _, rfl, OwnV.nil _ _, HR.out, HG.out⟩
  case round =>
    clear HR HG
    obtain ⟨q, hq, rfl, hO, hR, hgr⟩ := hrel
    have hml := readVals_length k q r2
    obtain ⟨A14, c14, rfl, _, _⟩ := hO.form' (n := q) hml
    by_cases hlt : q < c
    · have hrs : readVals k (q + 1) r2 = ((readVals k q r2).1 ++ [(rdVal k (readVals k q r2).2).1], (rdVal k (readVals k q r2).2).2) := rfl
      have hS := fun w h => scalarR_any k g (readVals k q r2).2 w HK.out.1 h (readVals_okR k q HK.out.2)
      have hfl : (readVals k q r2).1.length < few := by rw [hml]; unfold few; omega
      generalize readVals k q r2 = X at *
      obtain ⟨O, r3⟩ := X
      simp only [] at hrs hS hO hR hml hfl
      generalize rdVal k r3 = Y at *
      obtain ⟨⟨ku, iu, bu, su⟩, r4⟩ := Y
      simp only [vagg] at hrs hS
      have HS := Lib.hid hS; clear hS
      have HRS := Lib.hid (And.intro hrs (And.intro hml hfl)); clear hrs hml hfl
      have HO := Lib.hid hO; clear hO
      have HR := Lib.hid hR; clear hR
      have HG := Lib.hid hgr; clear hgr
      have hsz := HG.out.size
      clear HWP
      go_wp2_with (first
        | (go_at_call 105; (with_reducible refine (HS.out _ HR.out).mono ?_); rintro e w1 ⟨rfl, hR1, hg1⟩; have HR1 := Lib.hid hR1; have HO1 := Lib.hid (HO.out.keepB hg1 (own_ne HO.out hg)); have HG1 := Lib.hid (grown_then HG.out hg1); clear hR1 hg1; have hsz1 := HG1.out.size)
        | (at_builtin; (refine wpList_push_val rfl (.tmp 100) (.tmp 104) rfl w.heap.size (.slice A14 q c14) O ⟨ku, iu, bu, su⟩ w1.heap.size 1 rfl rfl (t := 71) (fr := (0, 0)) (heap_alloc_new w1 (.cells #[.int .i64 ku, .int .i64 iu, .bool bu, .string su] 71)) (HO1.out.alloc (.cells #[.int .i64 ku, .int .i64 iu, .bool bu, .string su] 71)) HRS.out.2.2 (by simp; omega) ?_; intro u2 wB hI2 hgB hatB)))
      go_roundw
      case rel => exact ⟨q + 1, by omega, by go_num, by rw [HRS.out.1]; exact hI2, by rw [HRS.out.1]; exact (HR1.out.alloc _).grown hgB (fun e => own_ne HO1.out hg e.symm), grown_step (grown_then HG1.out (World.grownBy_alloc _ _ _)) hgB (own_base HO1.out)⟩
      case measure => simp [intOf]; omega
    · obtain rfl : q = c := by omega
      have ok3 := readVals_okR k q HK.out.2
      have hfi := readVals_fine HK.out.1 q r2
      have hwl : width (q - 1) ≤ 16 := Nat.le_trans (width_le (by omega)) (by omega)
      have hwd := fun w => Bitpack.width_any ((q : Int) - 1) w (by omega)
      rw [width_pred] at hwd
      have hw1 : IntKind.i64.wrap ((q : Int) - 1) = (q : Int) - 1 := IntWalk.i64_in _ (by omega)
      generalize readVals k q r2 = X at *
      obtain ⟨ws, r3⟩ := X
      simp only [] at hO hR hml ok3 hfi HWP
      have hP := fun w h => packed_any g many (width (q - 1)) r3 w h ok3 hm hwl
      have hxl := rdPackedP_len many (width (q - 1)) r3
      generalize rdPackedP many (width (q - 1)) r3 = Z at *
      obtain ⟨xs, r4⟩ := Z
      simp only [] at hP hxl HWP
      generalize width (q - 1) = wd at *
      have HP := Lib.hid hP; clear hP ok3 hwl
      have HWD := Lib.hid hwd; clear hwd
      have HF := Lib.hid (And.intro hml hfi); clear hml hfi
      have HO := Lib.hid hO; clear hO
      have HR := Lib.hid hR; clear hR
      have HG := Lib.hid hgr; clear hgr
      clear HK
      obtain ⟨m, hm⟩ : ∃ m, (lookVals ws (iat xs)).length = m := ⟨_, rfl⟩
      have HM := Lib.hid hm; clear hm
      obtain ⟨s4, a4, b4⟩ := r4
      cases hlk : ValMath.look ws (iat xs) with
      | some out =>
        have hl := look_some hlk
        have HLC := Lib.hid hl.2
        have HLV := Lib.hid hl.1
        have HLK := Lib.hid hlk; clear hlk hl
        cases b4
        ·
          go_wp2_with (first
            | (go_at_call 106; (with_reducible refine (HWD.out _).mono ?_); rintro e w2 ⟨rfl, rfl⟩)
            | (go_at_call 76; (with_reducible refine (HP.out _ HR.out).mono ?_); rintro e w3 ⟨v, rfl, hI, hR3, hg3⟩; obtain ⟨A15, c15, rfl, _, _, _⟩ := hI.form (n := xs.length) (iat_length xs); have HI := Lib.hid hI; have HR3 := Lib.hid hR3; have HO3 := Lib.hid (HO.out.keepB hg3 (own_ne HO.out hg)); have HG3 := Lib.hid (grown_then HG.out hg3); clear hI hR3 hg3)
            | (go_at_call 107; (with_reducible refine (look_got A14 A15 q xs.length c14 c15 ws (iat xs) _ (HO3.out.sl HF.out.1) (HI.out.sl (iat_length xs)) (by omega) (by omega) HF.out.2 m HM.out _ HLC.out).mono ?_); rintro e w4 ⟨A16, c16, rfl, hV, hb4⟩; have HV := Lib.hid hV; have hR4 := HR3.out.below hb4; have y2 := hR4.cells.2.2; have yf := hR4.free 2; have HR4 := Lib.hid hR4; have HG4 := Lib.hid (grown_then HG3.out (World.grownBy.but (MapV.grown_of_below hb4) _)); have hsz3 := HG3.out.size; clear hV hb4 hR4))
          go_ret
          refine ⟨_, rfl, ?_, ?_, grown_then HG4.out (grown_one _ _ _ _)⟩
          · rw [HWP.out, HLK.out, ← HLV.out]; exact own_set (own_le HV.out.own hsz3) hg
          · rw [HWP.out, HLK.out]; exact HR4.out.bad _
        ·
          go_wp2_with (first
            | (go_at_call 106; (with_reducible refine (HWD.out _).mono ?_); rintro e w2 ⟨rfl, rfl⟩)
            | (go_at_call 76; (with_reducible refine (HP.out _ HR.out).mono ?_); rintro e w3 ⟨v, rfl, hI, hR3, hg3⟩; obtain ⟨A15, c15, rfl, _, _, _⟩ := hI.form (n := xs.length) (iat_length xs); have HI := Lib.hid hI; have HR3 := Lib.hid hR3; have HO3 := Lib.hid (HO.out.keepB hg3 (own_ne HO.out hg)); have HG3 := Lib.hid (grown_then HG.out hg3); clear hI hR3 hg3)
            | (go_at_call 107; (with_reducible refine (look_got A14 A15 q xs.length c14 c15 ws (iat xs) _ (HO3.out.sl HF.out.1) (HI.out.sl (iat_length xs)) (by omega) (by omega) HF.out.2 m HM.out _ HLC.out).mono ?_); rintro e w4 ⟨A16, c16, rfl, hV, hb4⟩; have HV := Lib.hid hV; have hR4 := HR3.out.below hb4; have y2 := hR4.cells.2.2; have yf := hR4.free 2; have HR4 := Lib.hid hR4; have HG4 := Lib.hid (grown_then HG3.out (World.grownBy.but (MapV.grown_of_below hb4) _)); have hsz3 := HG3.out.size; clear hV hb4 hR4))
          go_ret
          refine ⟨_, rfl, ?_, ?_, grown_then HG4.out (grown_one _ _ _ _)⟩
          · rw [HWP.out, HLK.out, ← HLV.out]; exact own_set (own_le HV.out.own hsz3) hg
          · rw [HWP.out, HLK.out]; exact HR4.out.bad _
      | none =>
        have hl := look_none hlk
        have HLC := Lib.hid hl.2
        have HLV := Lib.hid hl.1
        have HLK := Lib.hid hlk; clear hlk hl
        cases b4
        ·
          go_wp2_with (first
            | (go_at_call 106; (with_reducible refine (HWD.out _).mono ?_); rintro e w2 ⟨rfl, rfl⟩)
            | (go_at_call 76; (with_reducible refine (HP.out _ HR.out).mono ?_); rintro e w3 ⟨v, rfl, hI, hR3, hg3⟩; obtain ⟨A15, c15, rfl, _, _, _⟩ := hI.form (n := xs.length) (iat_length xs); have HI := Lib.hid hI; have HR3 := Lib.hid hR3; have HO3 := Lib.hid (HO.out.keepB hg3 (own_ne HO.out hg)); have HG3 := Lib.hid (grown_then HG.out hg3); clear hI hR3 hg3)
            | (go_at_call 107; (with_reducible refine (look_got A14 A15 q xs.length c14 c15 ws (iat xs) _ (HO3.out.sl HF.out.1) (HI.out.sl (iat_length xs)) (by omega) (by omega) HF.out.2 m HM.out _ HLC.out).mono ?_); rintro e w4 ⟨A16, c16, rfl, hV, hb4⟩; have HV := Lib.hid hV; have hR4 := HR3.out.below hb4; have y2 := hR4.cells.2.2; have yf := hR4.free 2; have HR4 := Lib.hid hR4; have HG4 := Lib.hid (grown_then HG3.out (World.grownBy.but (MapV.grown_of_below hb4) _)); have hsz3 := HG3.out.size; clear hV hb4 hR4))
          go_ret
          refine ⟨_, rfl, ?_, ?_, grown_then HG4.out (grown_one _ _ _ _)⟩
          · rw [HWP.out, HLK.out, ← HLV.out]; exact own_set (own_le HV.out.own hsz3) hg
          · rw [HWP.out, HLK.out]; exact HR4.out.bad _
        ·
          go_wp2_with (first
            | (go_at_call 106; (with_reducible refine (HWD.out _).mono ?_); rintro e w2 ⟨rfl, rfl⟩)
            | (go_at_call 76; (with_reducible refine (HP.out _ HR.out).mono ?_); rintro e w3 ⟨v, rfl, hI, hR3, hg3⟩; obtain ⟨A15, c15, rfl, _, _, _⟩ := hI.form (n := xs.length) (iat_length xs); have HI := Lib.hid hI; have HR3 := Lib.hid hR3; have HO3 := Lib.hid (HO.out.keepB hg3 (own_ne HO.out hg)); have HG3 := Lib.hid (grown_then HG.out hg3); clear hI hR3 hg3)
            | (go_at_call 107; (with_reducible refine (look_got A14 A15 q xs.length c14 c15 ws (iat xs) _ (HO3.out.sl HF.out.1) (HI.out.sl (iat_length xs)) (by omega) (by omega) HF.out.2 m HM.out _ HLC.out).mono ?_); rintro e w4 ⟨A16, c16, rfl, hV, hb4⟩; have HV := Lib.hid hV; have hR4 := HR3.out.below hb4; have y2 := hR4.cells.2.2; have yf := hR4.free 2; have HR4 := Lib.hid hR4; have HG4 := Lib.hid (grown_then HG3.out (World.grownBy.but (MapV.grown_of_below hb4) _)); have hsz3 := HG3.out.size; clear hV hb4 hR4))
          go_ret
          refine ⟨_, rfl, ?_, ?_, grown_then HG4.out (grown_one _ _ _ _)⟩
          · rw [HWP.out, HLK.out, ← HLV.out]; exact own_set (own_le HV.out.own hsz3) hg
          · rw [HWP.out, HLK.out]; exact HR4.out.bad _
end Go.Proofs.YtgmemdedpklnhaaGreat.Vec

/-
  THE WALKS of the readers: some, by runs.
-/

namespace Go.Proofs.YtgmemdedpklnhaaGreat.Vec
open Go.RowKit ValMath Vals Sl VecMath Words

theorem takeWhile_at (p : Val → Bool) : ∀ (a b : List Val), (∀ u ∈ a, p u = true) → (∀ u, b.head? = some u → p u = false) → (a ++ b).takeWhile p = a ∧ (a ++ b).dropWhile p = b := by
  intro a
  induction a with
  | nil =>
    intro b _ hb
    cases b with
    | nil => exact ⟨rfl, rfl⟩
    | cons u l => have := hb u rfl; simp [this]
  | cons u a ih =>
    intro b ha hb
    have h1 := ha u (by simp)
    obtain ⟨e1, e2⟩ := ih b (fun x hx => ha x (by simp [hx])) hb
    simp [h1, e1, e2]
theorem fill_at {L : List Val} {v : Val} {j : Nat} (hj : j ≤ L.length) (h0 : ∀ u ∈ L.drop j, u.k = 0) (h1 : ∀ u, j ≠ 0 → L[j - 1]? = some u → u.k ≠ 0) : fill L v = L.take j ++ List.replicate (L.length - j) v := by
  have hr : L.reverse = (L.drop j).reverse ++ (L.take j).reverse := by rw [← List.reverse_append, List.take_append_drop]
  have hb : ∀ u, (L.take j).reverse.head? = some u → (fun u : Val => decide (u.k = 0)) u = false := by
    intro u hu
    rw [List.head?_reverse, List.getLast?_eq_getElem?, List.length_take, Nat.min_eq_left hj] at hu
    by_cases hz : j = 0
    · subst hz; simp at hu
    · rw [List.getElem?_take_of_lt (by omega)] at hu
      exact decide_eq_false (h1 u hz hu)
  obtain ⟨e1, e2⟩ := takeWhile_at (fun u : Val => decide (u.k = 0)) (L.drop j).reverse (L.take j).reverse (fun u hu => decide_eq_true (h0 u (List.mem_reverse.1 hu))) hb
  unfold fill
  rw [hr, e1, e2, List.reverse_reverse, List.length_reverse, List.length_drop]
theorem runsP_okR (k : Int) (many n : Nat) {r : Rd} (ok : OkR r) : OkR (runsP k many n r).2 := by
  induction n with
  | zero => exact ok
  | succ n ih => exact rdVal_okR (rdNum_okR ih)
theorem rep_snoc (S : List Val) (j : Nat) (v : Val) : S ++ List.replicate (j + 1) v = S ++ List.replicate j v ++ [v] := by rw [List.replicate_succ', List.append_assoc]
theorem vscells_put (vs : List Val) (k : Nat) (hk : k < vs.length) (v : Val) : vscells (vs.set k v) = ((((vscells vs).set (k * 4) (.int .i64 v.k)).set (k * 4 + 1) (.int .i64 v.i)).set (k * 4 + 2) (.bool v.b)).set (k * 4 + 3) (.string v.s) := by
  induction vs generalizing k with
  | nil => simp at hk
  | cons u vs ih =>
    cases k with
    | zero => simp [vscells, vcells]
    | succ k =>
      have := ih k (by simpa using hk)
      simp only [vscells, List.set_cons_succ, List.flatMap_cons] at this ⊢
      have hl : (vcells u).length = 4 := by simp [vcells]
      rw [this, show (k + 1) * 4 = (vcells u).length + k * 4 by omega, show (vcells u).length + k * 4 + 1 = (vcells u).length + (k * 4 + 1) by omega, show (vcells u).length + k * 4 + 2 = (vcells u).length + (k * 4 + 2) by omega, show (vcells u).length + k * 4 + 3 = (vcells u).length + (k * 4 + 3) by omega]
      rw [List.set_append_right _ _ (by omega), List.set_append_right _ _ (by omega), List.set_append_right _ _ (by omega), List.set_append_right _ _ (by omega)]
      simp only [Nat.add_sub_cancel_left]
theorem own_put4 {w : World} {B g n c : Nat} {vs : List Val} (h : OwnV w B (.slice (some ⟨g, 0, none⟩) n c) vs) (hl : vs.length = n) {k : Nat} (hk : k < vs.length) (v : Val) :
    OwnV ((((w.setCell ⟨g, k * 4, none⟩ (.int .i64 v.k)).setCell ⟨g, k * 4 + 1, none⟩ (.int .i64 v.i)).setCell ⟨g, k * 4 + 2, none⟩ (.bool v.b)).setCell ⟨g, k * 4 + 3, none⟩ (.string v.s)) B (.slice (some ⟨g, 0, none⟩) n c) (vs.set k v) := by
  unfold OwnV at h ⊢
  rw [hl] at h
  rw [List.length_set, hl, vscells_put vs k hk v]
  exact (World.ownsRow.stored (World.ownsRow.stored (World.ownsRow.stored (World.ownsRow.stored h (k * 4) (.int .i64 v.k)).1 (k * 4 + 1) (.int .i64 v.i)).1 (k * 4 + 2) (.bool v.b)).1 (k * 4 + 3) (.string v.s)).1
theorem set_fill {L : List Val} {v : Val} {p n : Nat} (h1 : p + 1 ≤ n) (h2 : L.length = n) : (L.take (p + 1) ++ List.replicate (n - (p + 1)) v).set p v = L.take p ++ List.replicate (n - p) v := by
  have hl : (L.take p).length = p := by rw [List.length_take]; omega
  rw [List.take_succ_eq_append_getElem (show p < L.length by omega), List.append_assoc]
  have := List.set_append_right (s := L.take p) (t := [L[p]'(by omega)] ++ List.replicate (n - (p + 1)) v) p v (by omega)
  rw [this, hl, Nat.sub_self]
  congr 1
  rw [show n - p = (n - (p + 1)) + 1 by omega, List.replicate_succ]; rfl
set_option maxRecDepth 20000 in
set_option maxHeartbeats 8000000 in
theorem some1_any (k : Int) (g many : Nat) (r : Rd) (w : World) (hk : k = 1 ∨ k = 2 ∨ k = 3) (h : Rdr 88 w g r) (ok : OkR r) (hm : many ≤ 4096) :
    Calls Tryz.prog 77 #[.pointer (some ⟨g, 0, none⟩), .int .i64 k, .int .i64 1, .int .i64 (many : Nat)] w fun e w' => ∃ v, e = .returned v ∧ OwnV w' w.heap.size v (runsP k many (rdNum many r).1 (rdNum many r).2).1 ∧ Rdr 88 w' g (runsP k many (rdNum many r).1 (rdNum many r).2).2 ∧ w.grownBy w' (some g) := by
  have hg := h.lt
  have hN := fun w h => num_any g many r w h ok
  have hle := rdNum_le many r
  have ok2 := rdNum_okR (m := many) ok
  generalize rdNum many r = X at *
  obtain ⟨c, r2⟩ := X
  simp only [] at hN hle ok2 ⊢
  have HK := Lib.hid (And.intro hk ok2); clear hk ok ok2
  have HN := Lib.hid hN; clear hN
  have H := Lib.hid h; clear h
  go_enter Tryz.func77, Tryz.ntmps77
  go_wp2_with (go_at_call 43; (with_reducible refine (HN.out _ H.out).mono ?_); rintro e w1 ⟨rfl, hR, hgr⟩; have HR := Lib.hid hR; have HG := Lib.hid hgr; clear hR hgr)
  clear H HN
  go_loopw [9, 55] (fun tv iv wr => ∃ q : Nat, q ≤ c ∧ iv = .int .i64 q ∧ OwnV wr w.heap.size tv (runsP k many q r2).1 ∧ Rdr 88 wr g (runsP k many q r2).2 ∧ w.grownBy wr (some g)) (fun _ iv _ => c - (intOf iv).toNat)
  case atStart => exact ⟨0, Nat.zero_le _, rfl, OwnV.nil _ _, HR.out, HG.out⟩
  case round =>
    clear HR HG
    obtain ⟨q, hq, rfl, hO, hR, hgr⟩ := hrel
    have hsl := runsP_length k many q r2
    have ok3 := runsP_okR k many q HK.out.2
    by_cases hlt : q < c
    · have hrs : runsP k many (q + 1) r2 = runStep k many (runsP k many q r2) := rfl
      unfold runStep at hrs
      simp only [] at hrs
      generalize runsP k many q r2 = X at *
      obtain ⟨S, r3⟩ := X
      simp only [] at hO hR hsl ok3 hrs
      have hN2 : ∀ w, Rdr 88 w g r3 → Calls Tryz.prog 43 #[.pointer (some ⟨g, 0, none⟩), .int .i64 ((many : Int) - (S.length : Int))] w fun e w' => e = .returned (.int .i64 ((rdNum (many - S.length) r3).1 : Nat)) ∧ Rdr 88 w' g (rdNum (many - S.length) r3).2 ∧ w.grownBy w' (some g) := fun w h => by
        rw [show (many : Int) - (S.length : Int) = ((many - S.length : Nat) : Int) by omega]; exact num_any g (many - S.length) r3 w h ok3
      have hle2 := rdNum_le (many - S.length) r3
      have ok4 := rdNum_okR (m := many - S.length) ok3
      generalize rdNum (many - S.length) r3 = Y at *
      obtain ⟨d, r4⟩ := Y
      simp only [] at hN2 hle2 ok4 hrs
      have hS := fun w h => scalarR_any k g r4 w HK.out.1 h ok4
      generalize rdVal k r4 = Z at *
      obtain ⟨v, r5⟩ := Z
      simp only [] at hS hrs
      have HRS := Lib.hid hrs; clear hrs
      have HN2 := Lib.hid hN2; clear hN2
      have HS := Lib.hid hS; clear hS
      obtain ⟨A9, c9, rfl, _, _⟩ := hO.form' (n := S.length) rfl
      have HO := Lib.hid hO; clear hO
      have HR := Lib.hid hR; clear hR
      have HG := Lib.hid hgr; clear hgr ok3 ok4
      have hw1 : IntKind.i64.wrap ((many : Int) - (S.length : Int)) = (many : Int) - (S.length : Int) := IntWalk.i64_in _ (by omega)
      have hsz := HG.out.size
      go_wp2_with (go_at_call 43; (with_reducible refine (HN2.out _ HR.out).mono ?_); rintro e w2 ⟨rfl, hR2, hg2⟩; have HR2 := Lib.hid hR2; have HO2 := Lib.hid (HO.out.keepB hg2 (own_ne HO.out hg)); have HG2 := Lib.hid (grown_then HG.out hg2); clear hR2 hg2)
      clear HO HR HG hw1 HN2 hsz
      go_loopw [9, 63] (fun tv iv wi => ∃ j : Nat, j ≤ d ∧ iv = .int .i64 j ∧ OwnV wi w.heap.size tv (S ++ List.replicate j nul) ∧ Rdr 88 wi g r4 ∧ w.grownBy wi (some g)) (fun _ iv _ => d - (intOf iv).toNat)
      case atStart => exact ⟨0, Nat.zero_le _, rfl, by rw [List.replicate_zero, List.append_nil]; exact HO2.out, HR2.out, HG2.out⟩
      case round =>
        clear HO2 HR2 HG2
        obtain ⟨j, hj, rfl, hO, hR, hgr⟩ := hrel
        have hml : (S ++ List.replicate j nul).length = S.length + j := by rw [List.length_append, List.length_replicate]
        obtain ⟨A, c8, rfl, _, _⟩ := hO.form' (n := S.length + j) hml
        have hsz := hgr.size
        by_cases hjd : j < d
        · have hsn := rep_snoc S j nul
          have hfl : (S ++ List.replicate j nul).length < few := by rw [hml]; unfold few; omega
          generalize S ++ List.replicate j nul = O at *
          have HSN := Lib.hid (And.intro hsn hfl); clear hsn hfl
          have HO := Lib.hid hO; clear hO
          have HR := Lib.hid hR; clear hR
          have HG := Lib.hid hgr; clear hgr
          clear HRS HS HK
          go_wp2_with (at_builtin; (refine wpList_push_val rfl (.tmp 65) (.tmp 67) rfl w.heap.size (.slice A (S.length + j) c8) O nul wr.heap.size 1 rfl rfl (t := 71) (fr := (0, 0)) (heap_alloc_new wr (.cells #[.int .i64 0, .int .i64 0, .bool false, .string ByteArray.empty] 71)) (HO.out.alloc (.cells #[.int .i64 0, .int .i64 0, .bool false, .string ByteArray.empty] 71)) HSN.out.2 (by simp; omega) ?_; intro u2 wB hI2 hgB hatB))
          go_roundw
          case rel => exact ⟨j + 1, by omega, by go_num, by rw [HSN.out.1]; exact hI2, (HR.out.alloc _).grown hgB (fun e => own_ne HO.out hg e.symm), grown_step (grown_then HG.out (World.grownBy_alloc _ _ _)) hgB (own_base HO.out)⟩
          case measure => simp [intOf]; omega
        · obtain rfl : j = d := by omega
          generalize S ++ List.replicate j nul = L at *
          obtain ⟨n1, hn1⟩ : ∃ n1, n1 = S.length + j := ⟨_, rfl⟩
          rw [← hn1] at hml hO ⊢
          have hle3 : n1 ≤ many := by omega
          clear hle2 hsl hn1
          have HO := Lib.hid hO; clear hO
          have HR := Lib.hid hR; clear hR
          have HG := Lib.hid hgr; clear hgr
          have hwn : IntKind.i64.wrap ((n1 : Int) - 1) = (n1 : Int) - 1 := IntWalk.i64_in _ (by omega)
          obtain ⟨kv, iv0, bv, sv⟩ := v
          simp only [vagg] at HS
          go_wp2_with (first
            | (go_at_call 105; (with_reducible refine (HS.out _ HR.out).mono ?_); rintro e w3 ⟨rfl, hR3, hg3⟩; have HR3 := Lib.hid hR3; have HO3 := Lib.hid (HO.out.keepB hg3 (own_ne HO.out hg)); have HG3 := Lib.hid (grown_then HG.out hg3); clear hR3 hg3; have hsz3 := HG3.out.size))
          have hab := fun b hb => (World.ownsRow.lt HO3.out b hb).2
          go_loopw [13] (fun iv wi => ∃ j : Nat, j ≤ n1 ∧ iv = .int .i64 ((j : Int) - 1) ∧ (∀ u ∈ L.drop j, u.k = 0) ∧ OwnV wi w.heap.size (.slice A n1 c8) (L.take j ++ List.replicate (n1 - j) ⟨kv, iv0, bv, sv⟩) ∧ Box wi w3.heap.size ⟨kv, iv0, bv, sv⟩ ∧ Rdr 88 wi g r5 ∧ w.grownBy wi (some g) ∧ w3.heap.size < wi.heap.size) (fun iv _ => (intOf iv + 1).toNat)
          case atStart => exact ⟨n1, Nat.le_refl _, rfl, by rw [← hml, List.drop_length]; simp, by rw [Nat.sub_self, List.take_of_length_le (by omega), List.replicate_zero, List.append_nil]; exact OwnV.alloc HO3.out _, Box.new w3 ⟨kv, iv0, bv, sv⟩, HR3.out.alloc _, grown_then HG3.out (World.grownBy_alloc _ _ _), by simp⟩
          case round =>
            clear HO3 HR3 HG3
            obtain ⟨p, hp, hiv, hZ, hO, hX, hR, hgr, hlt3⟩ := hrel
            have HO := Lib.hid hO
            have HR := Lib.hid hR; clear hR
            have HG := Lib.hid hgr; clear hgr
            cases p with
            | zero =>
              have hiv2 := hiv.trans (show Value.int .i64 (((0 : Nat) : Int) - 1) = .int .i64 (-1) from rfl)
              subst hiv2
              clear hiv
              have hf := fill_at (L := L) (v := ⟨kv, iv0, bv, sv⟩) (j := 0) (Nat.zero_le _) hZ (fun _ h => absurd rfl h)
              rw [hml] at hf
              rw [← hf] at hO
              have HO := Lib.hid hO; clear hO hX hZ
              go_wp2
              go_roundw
              case rel => exact ⟨q + 1, by omega, by go_num, by rw [HRS.out]; exact HO.out, by rw [HRS.out]; exact HR.out, HG.out⟩
              case measure => simp [intOf]; omega
            | succ p =>
              have hiv2 := hiv.trans (show Value.int .i64 (((p + 1 : Nat) : Int) - 1) = .int .i64 (p : Nat) by congr 1; push_cast; omega)
              subst hiv2
              clear hiv
              have hml2 : (L.take (p + 1) ++ List.replicate (n1 - (p + 1)) (⟨kv, iv0, bv, sv⟩ : Val)).length = n1 := by rw [List.length_append, List.length_replicate, List.length_take]; omega
              obtain ⟨g9, hA9, hfr⟩ : ∃ g9, A = some ⟨g9, 0, none⟩ ∧ ∀ j, wr.frozen? ⟨g9, j, none⟩ = false := by
                rcases hO.2 with ⟨e, h0⟩ | ⟨g9, cap, cur, e, _⟩
                · omega
                · injection e with e1 e2 e3
                  subst e1; subst e3
                  refine ⟨g9, rfl, fun j => World.ownsRow.frozenAt (by have := hO; unfold OwnV at this; rw [hml2] at this; exact this) j⟩
              subst hA9
              obtain ⟨b1, o1, u, hu, hA, hb1, c0, c1, c2, c3⟩ := (hO.sl hml2).at_ (k := p) (by omega)
              injection hA with hA; injection hA with h1 h2; subst h1; subst h2
              have hu2 : L[p]? = some u := by rw [List.getElem?_append_left (by rw [List.length_take]; omega), List.getElem?_take_of_lt (by omega)] at hu; exact hu
              rw [Nat.zero_add] at c0 c1 c2 c3
              by_cases h0 : u.k = 0
              · have f0 := hfr (p * 4); have f1 := hfr (p * 4 + 1); have f2 := hfr (p * 4 + 2); have f3 := hfr (p * 4 + 3)
                obtain ⟨x0, x1, x2, x3⟩ := hX.cells
                rw [h0] at c0
                simp only [] at x0 x1 x2 x3
                obtain ⟨ku, iu, bu, su⟩ := u
                simp only [] at c1 c2 c3
                have hZ2 : ∀ x ∈ L.drop p, x.k = 0 := by
                  rw [List.drop_eq_getElem_cons (show p < L.length by omega)]
                  intro x hx
                  rw [List.mem_cons] at hx
                  rcases hx with rfl | hx
                  · rw [List.getElem?_eq_getElem (show p < L.length by omega)] at hu2; injection hu2 with hu2; rw [hu2]; exact h0
                  · exact hZ x hx
                have hset := set_fill (L := L) (v := ⟨kv, iv0, bv, sv⟩) (p := p) (n := n1) (by omega) (by omega)
                have hbg := own_base hO g9 rfl
                have hg9 : g ≠ g9 := by omega
                have hb9 : w.heap.size ≤ g9 := hbg
                have hlt9 : g9 < w3.heap.size := hab g9 rfl
                have hx9 : w3.heap.size ≠ g9 := by omega
                have HX := Lib.hid hX; clear hX hO hZ HRS hu hu2 h0
                go_wp2
                go_roundw
                case rel => exact ⟨p, by omega, rfl, hZ2, by rw [← hset]; exact own_put4 HO.out hml2 (by omega) ⟨kv, iv0, bv, sv⟩, HX.out.other hx9 |>.other hx9 |>.other hx9 |>.other hx9, (((HR.out.other hg9).other hg9).other hg9).other hg9, grown_new (grown_new (grown_new (grown_new HG.out hb9) hb9) hb9) hb9, by simp; exact hlt3⟩
                case measure => simp [intOf]
              · have hk0 : (u.k == 0) = false := by simpa using h0
                have hf := fill_at (L := L) (v := ⟨kv, iv0, bv, sv⟩) (j := p + 1) (by omega) hZ (fun x _ hx => by rw [Nat.add_sub_cancel, hu2] at hx; injection hx with hx; subst hx; exact h0)
                rw [hml] at hf
                rw [← hf] at HO
                obtain ⟨ku, iu, bu, su⟩ := u
                simp only [] at c0 c1 c2 c3 hk0
                clear hX hO hZ hu hu2 hf
                go_wp2
                go_roundw
                case rel => exact ⟨q + 1, by omega, by go_num, by rw [HRS.out]; exact HO.out, by rw [HRS.out]; exact HR.out, HG.out⟩
                case measure => simp [intOf]; omega
    · obtain rfl : q = c := by omega
      go_wp2
      go_ret
      exact ⟨_, rfl, hO, hR, hgr⟩
end Go.Proofs.YtgmemdedpklnhaaGreat.Vec

/-
  THE WALKS of the readers: some, all its ways.
-/

namespace Go.Proofs.YtgmemdedpklnhaaGreat.Vec
open Go.RowKit ValMath Vals Sl VecMath Words

set_option maxRecDepth 20000 in
set_option maxHeartbeats 4000000 in
theorem some3_any (k : Int) (g enc many : Nat) (r : Rd) (w : World) (he : 3 ≤ enc) (h : Rdr 88 w g r) :
    Calls Tryz.prog 77 #[.pointer (some ⟨g, 0, none⟩), .int .i64 k, .int .i64 (enc : Nat), .int .i64 (many : Nat)] w fun e w' => ∃ v, e = .returned v ∧ OwnV w' w.heap.size v [] ∧ Rdr 88 w' g r ∧ w.grownBy w' (some g) := by
  have e0 : (((enc : Nat) : Int) == 0) = false := by simp; omega
  have e1 : (((enc : Nat) : Int) == 1) = false := by simp; omega
  have e2 : (((enc : Nat) : Int) == 2) = false := by simp; omega
  have H := Lib.hid h; clear h
  go_enter Tryz.func77, Tryz.ntmps77
  go_wp2
  go_ret
  exact ⟨_, rfl, OwnV.nil _ _, H.out, World.grownBy.refl _ _⟩
theorem some_any (k : Int) (g enc many : Nat) (r : Rd) (w : World) (hk : k = 1 ∨ k = 2 ∨ k = 3) (h : Rdr 88 w g r) (ok : OkR r) (hm : many ≤ 4096) :
    Calls Tryz.prog 77 #[.pointer (some ⟨g, 0, none⟩), .int .i64 k, .int .i64 (enc : Nat), .int .i64 (many : Nat)] w fun e w' => ∃ v, e = .returned v ∧ OwnV w' w.heap.size v (someP k enc many r).1 ∧ Rdr 88 w' g (someP k enc many r).2 ∧ w.grownBy w' (some g) := by
  unfold someP
  by_cases h0 : enc = 0
  · subst h0
    rw [if_pos rfl]
    by_cases h2 : k = 2
    · subst h2
      rw [if_pos rfl]
      exact someB_any g many r w h ok hm
    · rw [if_neg h2]
      exact some0_any k g many r w (by omega) h ok hm
  · rw [if_neg h0]
    by_cases h1 : enc = 1
    · subst h1
      rw [if_pos rfl]
      exact some1_any k g many r w hk h ok hm
    · rw [if_neg h1]
      by_cases h2 : enc = 2
      · subst h2
        rw [if_pos rfl]
        exact some2_any k g many r w hk h ok hm
      · rw [if_neg h2]
        exact some3_any k g enc many r w (by omega) h

theorem fine_nul : Fine nul := ⟨by decide, by decide, by decide, by decide, Nat.zero_le _⟩
theorem fine_bool (b : Bool) : Fine ⟨2, 0, b, ByteArray.empty⟩ := ⟨show (-9223372036854775808 : Int) ≤ 2 by decide, show (2 : Int) < 9223372036854775808 by decide, show (-9223372036854775808 : Int) ≤ 0 by decide, show (0 : Int) < 9223372036854775808 by decide, Nat.zero_le _⟩
theorem fill_fine {out : List Val} {v : Val} (h : ∀ u ∈ out, Fine u) (hv : Fine v) : ∀ u ∈ fill out v, Fine u := by
  intro u hu
  unfold fill at hu
  rw [List.mem_append] at hu
  rcases hu with hu | hu
  · refine h u ?_
    rw [List.mem_reverse] at hu
    have := (List.dropWhile_sublist (fun u : Val => decide (u.k = 0)) (l := out.reverse)).mem hu
    simpa using this
  · simp only [List.mem_replicate] at hu; rw [hu.2]; exact hv
theorem runsP_fine {k : Int} (hk : k = 1 ∨ k = 2 ∨ k = 3) (many n : Nat) (r : Rd) : ∀ v ∈ (runsP k many n r).1, Fine v := by
  induction n with
  | zero => intro v hv; simp [runsP] at hv
  | succ n ih =>
    simp only [runsP, runStep]
    refine fill_fine (fun u hu => ?_) (rdVal_fine hk _).1
    rw [List.mem_append] at hu
    rcases hu with hu | hu
    · exact ih u hu
    · simp only [List.mem_replicate] at hu; rw [hu.2]; exact fine_nul
theorem getD_fine {ws : List Val} (h : ∀ u ∈ ws, Fine u) (i : Nat) : Fine (ws.getD i nul) := by
  rw [List.getD_eq_getElem?_getD]
  cases hi : ws[i]? with
  | none => exact fine_nul
  | some v => exact h v (List.mem_of_getElem? hi)
theorem someP_fine {k : Int} (hk : k = 1 ∨ k = 2 ∨ k = 3) (e many : Nat) (r : Rd) : ∀ v ∈ (someP k e many r).1, Fine v := by
  unfold someP
  split
  · split
    · intro v hv
      simp only [List.mem_map] at hv
      obtain ⟨x, _, rfl⟩ := hv
      exact fine_bool _
    · exact readVals_fine hk _ _
  · split
    · exact runsP_fine hk _ _ _
    · split
      · unfold wordsP
        simp only []
        split
        · rename_i out hl
          unfold ValMath.look at hl
          split at hl
          · injection hl with hl; subst hl
            intro v hv
            simp only [List.mem_map] at hv
            obtain ⟨a, _, rfl⟩ := hv
            exact fine_clean (getD_fine (readVals_fine hk _ _) _)
          · cases hl
        · intro v hv; simp at hv
      · intro v hv; simp at hv
theorem weave_fine (l : List Nat) (vs : List Val) (h : ∀ v ∈ vs, Fine v) : ∀ v ∈ weave l vs, Fine v := by
  induction l generalizing vs with
  | nil => intro v hv; simp [weave] at hv
  | cons x l ih =>
    simp only [weave]
    split
    · intro v hv
      simp only [List.mem_cons] at hv
      rcases hv with hv | hv
      · subst hv; exact fine_nul
      · exact ih vs h v hv
    · intro v hv
      simp only [List.mem_cons] at hv
      rcases hv with hv | hv
      · subst hv
        cases vs with
        | nil => exact fine_nul
        | cons u vs => exact h u (by simp)
      · exact ih vs.tail (fun u hu => h u (List.mem_of_mem_tail hu)) v hv
theorem rdPackedP_lt (m w : Nat) (r : Rd) : ∀ x ∈ (rdPackedP m w r).1, x < 2 ^ w := by
  unfold rdPackedP
  cases h : unpack (rdBytes ((m * w + 7) / 8) r).1 m w with
  | none => intro x hx; simp at hx
  | some xs => exact unpack_lt h
theorem left_snoc (l : List Nat) (x : Nat) : left (l ++ [x]) = left l + (if x = 1 then 0 else 1) := by
  unfold left
  rw [List.filter_append, List.length_append]
  by_cases h : x = 1 <;> simp [h]
theorem left_append (a b : List Nat) : left (a ++ b) = left a + left b := by
  unfold left; rw [List.filter_append, List.length_append]
theorem weave_snoc (l : List Nat) (x : Nat) (vs : List Val) : weave (l ++ [x]) vs = weave l vs ++ [if x = 1 then nul else (vs.drop (left l)).headD nul] := by
  induction l generalizing vs with
  | nil => by_cases h : x = 1 <;> simp [weave, left, h]
  | cons y l ih =>
    simp only [List.cons_append, weave]
    by_cases hy : y = 1
    · rw [if_pos hy, if_pos hy, ih]
      have : left (y :: l) = left l := by unfold left; simp [hy]
      rw [this]; rfl
    · rw [if_neg hy, if_neg hy, ih]
      have : left (y :: l) = left l + 1 := by unfold left; simp [hy]
      rw [this, ← List.drop_tail]; rfl
theorem weave_length (l : List Nat) (vs : List Val) : (weave l vs).length = l.length := by
  induction l generalizing vs with
  | nil => rfl
  | cons x l ih => simp only [weave]; split <;> simp [ih]
theorem left_le (l : List Nat) : left l ≤ l.length := List.length_filter_le _ _
theorem left_take_lt {ns : List Nat} {q x : Nat} (h : ns[q]? = some x) (hx : x ≠ 1) : left (ns.take q) < left ns := by
  have h1 : left ns = left (ns.take q) + left (ns.drop q) := by rw [← left_append, List.take_append_drop]
  have h2 : q < ns.length := (List.getElem?_eq_some_iff.1 h).1
  rw [List.drop_eq_getElem_cons h2] at h1
  have h3 : ns[q] = x := by rw [List.getElem?_eq_getElem h2] at h; injection h
  rw [h3] at h1
  have : left (x :: ns.drop (q + 1)) = left (ns.drop (q + 1)) + 1 := by unfold left; simp [hx]
  omega
end Go.Proofs.YtgmemdedpklnhaaGreat.Vec

/-
  THE WALK of vec.Get.
-/



namespace Go.Proofs.YtgmemdedpklnhaaGreat.Vec
open Go.RowKit ValMath Vals Sl VecMath Words

def gvals (k : Int) (s : ByteArray) : List Val := (unvec decP k s.data.toList).1
def gcode (k : Int) (s : ByteArray) : Int := ((unvec decP k s.data.toList).2 : Nat)
theorem get_kind {k : Int} (s : ByteArray) (h : ¬ (1 ≤ k ∧ k ≤ 3)) : gvals k s = [] ∧ gcode k s = 900 := by
  unfold gvals gcode unvec; rw [if_pos (by omega)]; exact ⟨rfl, rfl⟩
theorem get_sum {k : Int} {s : ByteArray} (h : 1 ≤ k ∧ k ≤ 3) (ho : CrcMath.open_ s.data.toList = none) : gvals k s = [] ∧ gcode k s = 902 := by
  unfold gvals gcode unvec; rw [if_neg (by omega), ho]; exact ⟨rfl, rfl⟩
theorem get_form {k : Int} {s : ByteArray} {b : List UInt8} (h : 1 ≤ k ∧ k ≤ 3) (ho : CrcMath.open_ s.data.toList = some b) (hd : decP k b = none) : gvals k s = [] ∧ gcode k s = 901 := by
  unfold gvals gcode unvec; rw [if_neg (by omega), ho]; simp only [hd]; exact ⟨trivial, rfl⟩
theorem get_worse {k : Int} {s : ByteArray} {b : List UInt8} {vs : List Val} (h : 1 ≤ k ∧ k ≤ 3) (ho : CrcMath.open_ s.data.toList = some b) (hd : decP k b = some vs) (hn : ¬ (mayErr k vs = 0 ∧ put k vs = s.data.toList)) : gvals k s = [] ∧ gcode k s = 901 := by
  unfold gvals gcode unvec; rw [if_neg (by omega), ho]; simp only [hd]; rw [if_neg hn]; exact ⟨rfl, rfl⟩
theorem get_good {k : Int} {s : ByteArray} {b : List UInt8} {vs : List Val} (h : 1 ≤ k ∧ k ≤ 3) (ho : CrcMath.open_ s.data.toList = some b) (hd : decP k b = some vs) (hn : mayErr k vs = 0 ∧ put k vs = s.data.toList) : gvals k s = vs ∧ gcode k s = 0 := by
  unfold gvals gcode unvec; rw [if_neg (by omega), ho]; simp only [hd]; rw [if_pos hn]; exact ⟨rfl, rfl⟩
theorem open_len {l b : List UInt8} (h : CrcMath.open_ l = some b) : b.length ≤ l.length := by
  unfold CrcMath.open_ at h
  split at h
  · cases h
  · split at h
    · injection h with h; subst h; rw [List.length_take]; omega
    · cases h

theorem _root_.Go.Proofs.YtgmemdedpklnhaaGreat.Vals.VSl.tail {w : World} {b o m : Nat} {L : List Val} (h : VSl w (some ⟨b, o, none⟩) m L) (hm : 0 < m) : VSl w (some ⟨b, o + 4, none⟩) (m - 1) (L.drop 1) := by
  refine ⟨by rw [List.length_drop, h.1], fun hm2 => ?_⟩
  obtain ⟨b', o', e, hlt, hc⟩ := h.2 hm
  injection e with e; injection e with e1 e2; subst e1; subst e2
  refine ⟨b, o + 4, rfl, hlt, fun i hi => ?_⟩
  rw [List.length_drop] at hi
  have := hc (i + 1) (by omega)
  rw [show o + (i + 1) * 4 = o + 4 + i * 4 by omega] at this
  simpa [List.getElem_drop, Nat.add_comm] using this
theorem _root_.Go.Proofs.YtgmemdedpklnhaaGreat.Vals.VSl.tail2 {w : World} {b o m c : Nat} {L : List Val} (h : VSl w (some ⟨b, o, none⟩) m L) (hm : 0 < m) (hc : m ≤ c) : VSl w (if c = 1 then some ⟨b, o, none⟩ else some ⟨b, o + 4, none⟩) (m - 1) (L.drop 1) := by
  by_cases h1 : c = 1
  · rw [if_pos h1]
    exact ⟨by rw [List.length_drop, h.1], fun h2 => by omega⟩
  · rw [if_neg h1]; exact h.tail hm
theorem str_ne {l : List UInt8} {s : ByteArray} (h : l ≠ s.data.toList) : ((str l).toList == s.toList) = false := by
  rw [Lib.toList_data, Lib.toList_data, str_list]; simpa using h
set_option maxRecDepth 20000 in
set_option maxHeartbeats 8000000 in
theorem get_any (k : Int) (s : ByteArray) (w : World) (hs : s.size ≤ maxReach) :
    Calls Tryz.prog 45 #[.int .i64 k, .string s] w fun e w' => ∃ u, e = .returned (.tuple #[u, .int .i64 (gcode k s)]) ∧ OwnV w' w.heap.size u (gvals k s) ∧ Below w.heap.size w w' := by
  have hK := kind_any k
  by_cases h1 : 1 ≤ k ∧ k ≤ 3
  · rw [decide_eq_true h1] at hK
    have hO := fun w => Crc.open_any s w hs
    cases ho : CrcMath.open_ s.data.toList with
    | none =>
      have hg := get_sum h1 ho
      have hc : Crc.code s.data.toList = 400 := by unfold Crc.code; rw [ho]; rfl
      rw [hc] at hO
      have HK := Lib.hid hK; clear hK
      have HO := Lib.hid hO; clear hO
      have HG := Lib.hid hg; clear hg hc ho h1
      go_enter Tryz.func45, Tryz.ntmps45
      go_wp2_with (first
        | (go_at_call 36; (with_reducible refine (HK.out _).mono ?_); rintro e w1 ⟨rfl, rfl⟩)
        | (go_at_call 41; (with_reducible refine (HO.out _).mono ?_); rintro e w2 ⟨rfl, hb2⟩))
      go_ret2
      exact ⟨_, ret_vi HG.out.2.symm, by rw [HG.out.1]; exact OwnV.nil _ _, hb2⟩
    | some b =>
      have hc : Crc.code s.data.toList = 0 := by unfold Crc.code; rw [ho]; rfl
      have hop : Crc.opened s.data.toList = b := by unfold Crc.opened; rw [ho]; rfl
      rw [hc, hop] at hO
      clear hc hop
      have hbl := open_len ho
      have ok0 : OkR ⟨b, 0, false⟩ := ⟨Nat.zero_le _, by show b.length ≤ maxReach; have : s.data.toList.length = s.size := by simp
                                                         omega⟩
      have hk3 : k = 1 ∨ k = 2 ∨ k = 3 := by omega
      have hdp : decP k b = (if (someP k (rdByte ⟨b, 0, false⟩).1 (left (rdPackedP (rdNum 4096 (rdByte ⟨b, 0, false⟩).2).1 1 (rdNum 4096 (rdByte ⟨b, 0, false⟩).2).2).1) (rdPackedP (rdNum 4096 (rdByte ⟨b, 0, false⟩).2).1 1 (rdNum 4096 (rdByte ⟨b, 0, false⟩).2).2).2).2.bad = true ∨
          (rdPackedP (rdNum 4096 (rdByte ⟨b, 0, false⟩).2).1 1 (rdNum 4096 (rdByte ⟨b, 0, false⟩).2).2).1.length ≠ (rdNum 4096 (rdByte ⟨b, 0, false⟩).2).1 ∨
          (someP k (rdByte ⟨b, 0, false⟩).1 (left (rdPackedP (rdNum 4096 (rdByte ⟨b, 0, false⟩).2).1 1 (rdNum 4096 (rdByte ⟨b, 0, false⟩).2).2).1) (rdPackedP (rdNum 4096 (rdByte ⟨b, 0, false⟩).2).1 1 (rdNum 4096 (rdByte ⟨b, 0, false⟩).2).2).2).1.length ≠ left (rdPackedP (rdNum 4096 (rdByte ⟨b, 0, false⟩).2).1 1 (rdNum 4096 (rdByte ⟨b, 0, false⟩).2).2).1 then none else
          some (weave (rdPackedP (rdNum 4096 (rdByte ⟨b, 0, false⟩).2).1 1 (rdNum 4096 (rdByte ⟨b, 0, false⟩).2).2).1 (someP k (rdByte ⟨b, 0, false⟩).1 (left (rdPackedP (rdNum 4096 (rdByte ⟨b, 0, false⟩).2).1 1 (rdNum 4096 (rdByte ⟨b, 0, false⟩).2).2).1) (rdPackedP (rdNum 4096 (rdByte ⟨b, 0, false⟩).2).1 1 (rdNum 4096 (rdByte ⟨b, 0, false⟩).2).2).2).1)) := rfl
      have hB := fun g w h => byte_any g ⟨b, 0, false⟩ w h ok0
      have ok1 := rdByte_okR ok0
      generalize rdByte ⟨b, 0, false⟩ = X at *
      obtain ⟨e, r1⟩ := X
      simp only [] at hdp hB ok1
      have hN : ∀ g w, Rdr 88 w g r1 → Calls Tryz.prog 43 #[.pointer (some ⟨g, 0, none⟩), .int .i64 4096] w fun e w' => e = .returned (.int .i64 ((rdNum 4096 r1).1 : Nat)) ∧ Rdr 88 w' g (rdNum 4096 r1).2 ∧ w.grownBy w' (some g) := fun g w h => num_any g 4096 r1 w h ok1
      have hle := rdNum_le 4096 r1
      have ok2 := rdNum_okR (m := 4096) ok1
      generalize rdNum 4096 r1 = X at *
      obtain ⟨many, r2⟩ := X
      simp only [] at hdp hN hle ok2
      have hP : ∀ g w, Rdr 88 w g r2 → Calls Tryz.prog 76 #[.pointer (some ⟨g, 0, none⟩), .int .i64 (many : Nat), .int .i64 1] w fun e w' => ∃ v, e = .returned v ∧ OwnI w' w.heap.size v (iat (rdPackedP many 1 r2).1) ∧ Rdr 88 w' g (rdPackedP many 1 r2).2 ∧ w.grownBy w' (some g) := fun g w h => packed_any g many 1 r2 w h ok2 hle (by omega)
      have hxl := rdPackedP_len many 1 r2
      have hxb := rdPackedP_lt many 1 r2
      have ok3 := rdPackedP_okR (m := many) (w := 1) ok2
      generalize rdPackedP many 1 r2 = X at *
      obtain ⟨ns, r3⟩ := X
      simp only [] at hdp hP hxl hxb ok3
      have hS := fun g w h => some_any k g e (left ns) r3 w hk3 h ok3 (by have := left_le ns; omega)
      have hsf := someP_fine hk3 e (left ns) r3
      have hll := left_le ns
      generalize someP k e (left ns) r3 = X at *
      obtain ⟨vs, r4⟩ := X
      simp only [] at hdp hS hsf
      have HK := Lib.hid hK; clear hK
      have HO := Lib.hid hO; clear hO
      have HB := Lib.hid hB; clear hB
      have HN := Lib.hid hN; clear hN
      have HP := Lib.hid hP; clear hP
      have HS := Lib.hid hS; clear hS
      have HD := Lib.hid (And.intro h1 (And.intro ho (And.intro hdp hsf))); clear h1 ho hdp hsf ok0 ok1 ok2 ok3 hk3 hbl
      go_enter Tryz.func45, Tryz.ntmps45
      go_wp2_with (first
        | (go_at_call 36; (with_reducible refine (HK.out _).mono ?_); rintro e1 w1 ⟨rfl, rfl⟩)
        | (go_at_call 41; (with_reducible refine (HO.out _).mono ?_); rintro e2 w2 ⟨rfl, hb2⟩; have hR0 : Rdr 88 (w2.alloc (.cells #[.string (str b), .int .i64 0, .bool false] 88)) w2.heap.size ⟨b, 0, false⟩ := heap_alloc_new w2 _; have HR0 := Lib.hid hR0; clear hR0)
        | (go_at_call 44; (with_reducible refine (HB.out _ _ HR0.out).mono ?_); rintro e3 w3 ⟨rfl, hR, hg3⟩; have HR3 := Lib.hid hR; clear hR)
        | (go_at_call 43; (with_reducible refine (HN.out _ _ HR3.out).mono ?_); rintro e4 w4 ⟨rfl, hR, hg4⟩; have HR4 := Lib.hid hR; clear hR)
        | (go_at_call 76; (with_reducible refine (HP.out _ _ HR4.out).mono ?_); rintro e5 w5 ⟨v, rfl, hI, hR, hg5⟩; obtain ⟨A11, c11, rfl, _, _, _⟩ := hI.form (n := ns.length) (iat_length ns); have HI := Lib.hid hI; have HR5 := Lib.hid hR; clear hI hR))
      have hbt5 := (((hb2.alloc hb2.size (.cells #[.string (str b), .int .i64 0, .bool false] 88)).grown hg3 (Below.size (hb2.alloc hb2.size (.cells #[.string (str b), .int .i64 0, .bool false] 88))) (fun j hj => by cases hj; exact hb2.size)))
      have hbt6 := hbt5.grown hg4 hbt5.size (fun j hj => by cases hj; exact hb2.size)
      have hbt7 := hbt6.grown hg5 hbt6.size (fun j hj => by cases hj; exact hb2.size)
      have HBT := Lib.hid hbt7; clear hbt5 hbt6 hbt7
      have hz4 : w2.heap.size < w4.heap.size := by have h3 := hg3.size; have h4 := hg4.size; simp at h3; omega
      have hz2 := hb2.size
      clear hg3 hg4 hg5 HR0 HR3 HR4 HK HO HB HN HP
      go_loopw [12, 43] (fun nv iv wr => ∃ q : Nat, q ≤ ns.length ∧ iv = .int .i64 q ∧ nv = .int .i64 (left (ns.take q) : Nat) ∧ Below w5.heap.size w5 wr) (fun _ iv _ => ns.length - (intOf iv).toNat)
      case atStart => exact ⟨0, Nat.zero_le _, rfl, rfl, Below.refl _ _⟩
      case round =>
        obtain ⟨q, hq, rfl, rfl, hb⟩ := hrel
        have hI := HI.out.below hb
        by_cases hlt : q < ns.length
        · obtain ⟨b1, o1, y, hy, rfl, hb1, c0⟩ := (hI.sl (iat_length ns)).at_ hlt
          obtain ⟨x, rfl, hx⟩ := iat_get hy
          have hts := Vals.take_more hx
          have hls := left_snoc (ns.take q) x
          rw [← hts] at hls
          have hx2 := hxb x (List.mem_of_getElem? hx)
          have hlq := left_le (ns.take q)
          rw [List.length_take] at hlq
          clear hI HD HS HI HR5 HBT hts hx hy
          by_cases hx1 : x = 1
          · subst hx1
            rw [if_pos rfl] at hls
            have HL := Lib.hid hls; clear hls
            generalize left (ns.take q) = l0 at *
            have hw1 : IntKind.i64.wrap (l0 : Int) = (l0 : Int) := IntWalk.i64_in _ (by omega)
            go_wp2
            go_roundw
            case rel => exact ⟨q + 1, by omega, by go_num, by rw [HL.out]; rfl, hb⟩
            case measure => simp [intOf]; omega
          · obtain rfl : x = 0 := by omega
            rw [if_neg hx1] at hls
            have HL := Lib.hid hls; clear hls hx1
            generalize left (ns.take q) = l0 at *
            have hw1 : IntKind.i64.wrap ((l0 : Int) + 1) = ((l0 + 1 : Nat) : Int) := by rw [IntWalk.i64_in _ (by omega)]; push_cast; rfl
            go_wp2
            go_roundw
            case rel => exact ⟨q + 1, by omega, by go_num, by rw [HL.out]; push_cast; rfl, hb⟩
            case measure => simp [intOf]; omega
        · obtain rfl : q = ns.length := by omega
          rw [List.take_of_length_le (Nat.le_refl _)]
          have HI := Lib.hid hI; clear hI
          have HR := Lib.hid (HR5.out.below hb)
          replace HBT := Lib.hid (bthen HBT.out hb (Nat.le_refl _))
          have hzr := hb.size
          clear HR5
          obtain ⟨wv, rfl⟩ : ∃ wv : World, wv = wr := ⟨_, rfl⟩
          obtain ⟨s4, a4, b4⟩ := r4
          by_cases hgd : b4 = true ∨ ns.length ≠ many ∨ vs.length ≠ left ns
          · have hdp := HD.out.2.2.1
            rw [if_pos hgd] at hdp
            have hg := get_form HD.out.1 HD.out.2.1 hdp
            have HG := Lib.hid hg; clear hg hdp HD hxb
            cases b4 with
            | true =>
              go_wp2_with (go_at_call 77; (with_reducible refine (HS.out _ _ HR.out).mono ?_); rintro e6 w6 ⟨v, rfl, hV, hR, hg6⟩; obtain ⟨A15, c15, rfl, _, _⟩ := hV.form' (n := vs.length) rfl; have z2 := hR.cells.2.2; have HV := Lib.hid hV; clear hV hR)
              go_ret2
              exact ⟨_, ret_vi HG.out.2.symm, by rw [HG.out.1]; exact OwnV.nil _ _, HBT.out.grown hg6 HBT.out.size (fun j hj => by cases hj; exact hz2)⟩
            | false =>
              by_cases hd1 : ns.length = many
              · have hd2 : ((((vs.length : Nat) : Int)) != ((left ns : Nat) : Int)) = true := by simp; simp [hd1] at hgd; omega
                clear hgd
                go_wp2_with (go_at_call 77; (with_reducible refine (HS.out _ _ HR.out).mono ?_); rintro e6 w6 ⟨v, rfl, hV, hR, hg6⟩; obtain ⟨A15, c15, rfl, _, _⟩ := hV.form' (n := vs.length) rfl; have z2 := hR.cells.2.2; have HV := Lib.hid hV; clear hV hR)
                go_ret2
                exact ⟨_, ret_vi HG.out.2.symm, by rw [HG.out.1]; exact OwnV.nil _ _, HBT.out.grown hg6 HBT.out.size (fun j hj => by cases hj; exact hz2)⟩
              · have hd2 : ((((ns.length : Nat) : Int)) != ((many : Nat) : Int)) = true := by simp; omega
                clear hgd
                go_wp2_with (go_at_call 77; (with_reducible refine (HS.out _ _ HR.out).mono ?_); rintro e6 w6 ⟨v, rfl, hV, hR, hg6⟩; obtain ⟨A15, c15, rfl, _, _⟩ := hV.form' (n := vs.length) rfl; have z2 := hR.cells.2.2; have HV := Lib.hid hV; clear hV hR)
                go_ret2
                exact ⟨_, ret_vi HG.out.2.symm, by rw [HG.out.1]; exact OwnV.nil _ _, HBT.out.grown hg6 HBT.out.size (fun j hj => by cases hj; exact hz2)⟩
          · have hb4 : b4 = false := by cases b4 <;> simp at hgd ⊢
            subst hb4
            have hnm : ns.length = many := by
              by_cases h : ns.length = many
              · exact h
              · exact absurd (.inr (.inl h)) hgd
            have hvl : vs.length = left ns := by
              by_cases h : vs.length = left ns
              · exact h
              · exact absurd (.inr (.inr h)) hgd
            have hdp := HD.out.2.2.1
            rw [if_neg hgd] at hdp
            have hgb := fun h => get_worse HD.out.1 HD.out.2.1 hdp h
            have hgg := fun h => get_good HD.out.1 HD.out.2.1 hdp h
            have hfw := weave_fine ns vs HD.out.2.2.2
            have HD2 := Lib.hid (And.intro hgb (And.intro hgg hfw)); clear hgb hgg hfw hdp HD hgd
            subst hnm
            have d1 : ((((vs.length : Nat) : Int)) != ((left ns : Nat) : Int)) = false := by simp; omega
            have HVL := Lib.hid hvl; clear hvl
            go_wp2_with (go_at_call 77; (with_reducible refine (HS.out _ _ HR.out).mono ?_); rintro e6 w6 ⟨v, rfl, hV, hR, hg6⟩; obtain ⟨A15, c15, rfl, _, _⟩ := hV.form' (n := vs.length) rfl; have z2 := hR.cells.2.2; have HV := Lib.hid hV; clear hV hR)
            clear d1 z2
            have HI6 := Lib.hid (HI.out.keepB hg6 (own_ne HI.out hz4))
            replace HBT := Lib.hid (HBT.out.grown hg6 HBT.out.size (fun j hj => by cases hj; exact hz2))
            clear HI HR HS hg6
            go_loopw [15, 16, 75] (fun sv ov iv wr => ∃ q : Nat, q ≤ ns.length ∧ iv = .int .i64 q ∧ OwnV wr w6.heap.size ov (weave (ns.take q) vs) ∧ (∃ A' m' c', sv = .slice A' m' c' ∧ m' ≤ c' ∧ c' ≤ maxLen ∧ VSl w6 A' m' (vs.drop (left (ns.take q)))) ∧ Below w6.heap.size w6 wr) (fun _ _ iv _ => ns.length - (intOf iv).toNat)
            case atStart => exact ⟨0, Nat.zero_le _, rfl, OwnV.nil _ _, ⟨A15, vs.length, c15, rfl, (own_len HV.out).2.1, (own_len HV.out).2.2, HV.out.sl rfl⟩, Below.refl _ _⟩
            case round =>
              obtain ⟨q, hq, rfl, hO, ⟨A', m', c', rfl, hm1, hm2, hV⟩, hb⟩ := hrel
              have hml : (weave (ns.take q) vs).length = q := by rw [weave_length, List.length_take]; omega
              obtain ⟨A16, c16, rfl, _, _⟩ := hO.form' (n := q) hml
              have hbs := hb.size
              by_cases hlt : q < ns.length
              · obtain ⟨b1, o1, y, hy, rfl, hb1, c0⟩ := ((HI6.out.below hb).sl (iat_length ns)).at_ hlt
                obtain ⟨x, rfl, hx⟩ := iat_get hy
                have hts := Vals.take_more hx
                have hls := left_snoc (ns.take q) x
                have hws := weave_snoc (ns.take q) x vs
                rw [← hts] at hls hws
                have hfl : (weave (ns.take q) vs).length < few := by rw [hml]; unfold few; omega
                have HX := Lib.hid (And.intro hls (And.intro hws hfl)); clear hls hws hfl hts
                by_cases hx1 : x = 1
                · subst hx1
                  have HO := Lib.hid hO; clear hO
                  clear hx hy HVL HD2 hml
                  generalize weave (ns.take q) vs = O at *
                  go_wp2_with (at_builtin; (refine wpList_push_val rfl (.tmp 81) (.tmp 83) rfl w6.heap.size (.slice A16 q c16) O nul wr.heap.size 1 rfl rfl (t := 71) (fr := (0, 0)) (heap_alloc_new wr (.cells #[.int .i64 0, .int .i64 0, .bool false, .string ByteArray.empty] 71)) (HO.out.alloc (.cells #[.int .i64 0, .int .i64 0, .bool false, .string ByteArray.empty] 71)) HX.out.2.2 (by simp; omega) ?_; intro u2 wB hI2 hgB hatB))
                  go_roundw
                  case rel => exact ⟨q + 1, by omega, by go_num, by rw [HX.out.2.1]; exact hI2, ⟨A', m', c', rfl, hm1, hm2, by rw [HX.out.1]; exact hV⟩, (hb.alloc hb.size _).grown hgB (by simp; omega) (own_base HO.out)⟩
                  case measure => simp [intOf]; omega
                · have hlt2 := left_take_lt hx hx1
                  rw [← HVL.out] at hlt2
                  have hdl : (vs.drop (left (ns.take q))).length = m' := hV.1
                  rw [List.length_drop] at hdl
                  obtain ⟨b2, o2, v, hv, rfl, hb2', e0, e1, e2, e3⟩ := (hV.below hb).at_ (k := 0) (by omega)
                  have hm0 : 0 < m' := by omega
                  have hVT := hV.tail2 (c := c') (by omega) hm1
                  rw [List.drop_drop] at hVT
                  have hhd : (vs.drop (left (ns.take q))).headD nul = v := by rw [List.headD_eq_head?_getD, List.head?_eq_getElem?, hv]; rfl
                  have hls := HX.out.1
                  have hws := HX.out.2.1
                  rw [if_neg hx1] at hls
                  rw [if_neg hx1, hhd] at hws
                  have HY := Lib.hid (And.intro hls (And.intro hws (And.intro HX.out.2.2 hVT))); clear hls hws hhd hv HX hVT
                  have hx2 : x < 2 := hxb x (List.mem_of_getElem? hx)
                  have hx0 : x = 0 := by clear HI6 HBT; omega
                  subst hx0
                  have HO := Lib.hid hO; clear hO
                  clear hx hy HVL HD2 hml hdl hlt2 hV hx1
                  generalize weave (ns.take q) vs = O at *
                  obtain ⟨kv, iv, bv, sv⟩ := v
                  rw [Nat.zero_mul, Nat.add_zero] at e0 e1 e2 e3
                  simp only [] at e0 e1 e2 e3
                  have hm0' : (1 : Int) ≤ (m' : Int) := by omega
                  go_wp2
                  go_region_law (refine step_push_val rfl (.tmp 85) (.tmp 89) rfl w6.heap.size _ O ⟨kv, iv, bv, sv⟩ _ 1 rfl rfl (t := 71) (fr := (0, 0)) (heap_alloc_new _ _) (HO.out.drew.alloc _) HY.out.2.2.1 (by simp; omega) ?_; intro u wA hA hgA hatA; have HA := Lib.hid hA; clear hA)
                  all_goals
                    go_wp2
                    go_roundw
                    case rel => exact ⟨q + 1, by omega, by go_num, by rw [HY.out.2.1]; exact HA.out, ⟨_, _, _, rfl, by omega, by omega, by rw [HY.out.1]; exact HY.out.2.2.2⟩, (hb.drew.alloc hb.size _).grown hgA (by simp; omega) (own_base HO.out)⟩
                    case measure => simp [intOf]; omega
              · obtain rfl : q = ns.length := by omega
                rw [List.take_of_length_le (Nat.le_refl _)] at hO
                rw [List.take_of_length_le (Nat.le_refl _)] at hml
                have hgb := HD2.out.1
                have hgg := HD2.out.2.1
                have hP := fun w h => put_any k A16 ns.length c16 (weave ns vs) w h HD2.out.2.2
                have hsl := hO.sl hml
                have hz6 := HBT.out.size
                have hO2 : OwnV wr w.heap.size (.slice A16 ns.length c16) (weave ns vs) := own_le hO hz6
                replace HBT := Lib.hid (bthen HBT.out hb (Nat.le_refl _))
                clear HD2 HVL HI6 hO hxb hV
                generalize weave ns vs = O at *
                have HO := Lib.hid hO2; clear hO2
                have HSL := Lib.hid hsl; clear hsl
                by_cases h0 : mayErr k O = 0
                · by_cases hpe : put k O = s.data.toList
                  · have hg := hgg ⟨h0, hpe⟩
                    have HG := Lib.hid hg; clear hg hgb hgg
                    rw [h0, hpe, str_self] at hP
                    have HP := Lib.hid hP; clear hP h0 hpe
                    go_wp2_with (go_at_call 27; (with_reducible refine (HP.out _ HSL.out).mono ?_); rintro e7 w7 ⟨rfl, hb7⟩)
                    go_ret2
                    exact ⟨_, ret_vi HG.out.2.symm, by rw [HG.out.1]; exact HO.out.below hb7, bthen HBT.out hb7 (Nat.le_refl _)⟩
                  · have hg := hgb (fun h => hpe h.2)
                    have HG := Lib.hid hg; clear hg hgb hgg
                    rw [h0] at hP
                    have hne := str_ne hpe
                    generalize str (put k O) = Z at *
                    have HP := Lib.hid hP; clear hP h0 hpe
                    go_wp2_with (go_at_call 27; (with_reducible refine (HP.out _ HSL.out).mono ?_); rintro e7 w7 ⟨rfl, hb7⟩)
                    go_ret2
                    exact ⟨_, ret_vi HG.out.2.symm, by rw [HG.out.1]; exact OwnV.nil _ _, bthen HBT.out hb7 (Nat.le_refl _)⟩
                · have hg := hgb (fun h => h0 h.1)
                  have HG := Lib.hid hg; clear hg hgb hgg
                  have hne : (((mayErr k O : Nat) : Int) != 0) = true := by simp; omega
                  generalize ((mayErr k O : Nat) : Int) = E at *
                  generalize str (put k O) = Z at *
                  have HP := Lib.hid hP; clear hP h0
                  go_wp2_with (go_at_call 27; (with_reducible refine (HP.out _ HSL.out).mono ?_); rintro e7 w7 ⟨rfl, hb7⟩)
                  go_ret2
                  exact ⟨_, ret_vi HG.out.2.symm, by rw [HG.out.1]; exact OwnV.nil _ _, bthen HBT.out hb7 (Nat.le_refl _)⟩
  · rw [decide_eq_false h1] at hK
    have hg := get_kind s h1
    have HK := Lib.hid hK; clear hK
    have HG := Lib.hid hg; clear hg h1
    go_enter Tryz.func45, Tryz.ntmps45
    go_wp2_with (go_at_call 36; (with_reducible refine (HK.out _).mono ?_); rintro e w1 ⟨rfl, rfl⟩)
    go_ret2
    exact ⟨_, ret_vi HG.out.2.symm, by rw [HG.out.1]; exact OwnV.nil _ _, Below.refl _ _⟩
end Go.Proofs.YtgmemdedpklnhaaGreat.Vec

/-
  WHAT vec.Get GIVES is fine; how many, how long. No walk.
-/


namespace Go.Proofs.YtgmemdedpklnhaaGreat.Vec
open Go.RowKit ValMath Vals Sl VecMath

theorem put_small (k : Int) {vs : List Val} (hf : ∀ v ∈ vs, Fine v) : (put k vs).length ≤ 401004 := by
  unfold put
  split
  · rename_i h
    have hm := may_zero h hf
    have := body_len k vs hm.1 (fun v hv => (hm.2 v hv).2)
    rw [seal_length]; omega
  · simp
theorem put_reach (k : Int) {vs : List Val} (hf : ∀ v ∈ vs, Fine v) : (str (put k vs)).size ≤ maxReach := by
  rw [str_size]; have := put_small k hf; unfold maxReach; omega
theorem below_of {w w' : World} (h : ∃ k, w' = w.drewN k) : Below w.heap.size w w' := by
  obtain ⟨k, rfl⟩ := h; exact below_drewN (Below.refl _ _) k
theorem own_after {w w' : World} {B z n : Nat} {e : TypeId} {v : Value} {xs : List Value} {row : Option Nat} (h : w.ownsRow B e z v n xs) (hg : w.grownBy w' row) (hr : ∀ k, row = some k → k < B) : w'.ownsRow B e z v n xs := by
  refine World.ownsRow.kept h hg ?_
  cases hv : v.ownBlock with
  | none => exact .inl rfl
  | some k => exact .inr (fun e => by have := hr k e.symm; have := (World.ownsRow.lt h k hv).1; omega)
theorem gvals_len (k : Int) (s : ByteArray) : (gvals k s).length ≤ 4096 := by
  unfold gvals
  by_cases h : (unvec decP k s.data.toList).2 = 0
  · have := unvec_good (dec := decP) (k := k) (s := s.data.toList) (vs := (unvec decP k s.data.toList).1) (by rw [← h])
    exact (mayErr_zero this.1).2.1
  · rw [unvec_bad h]; simp
theorem decP_fine {k : Int} (hk : k = 1 ∨ k = 2 ∨ k = 3) {b : List UInt8} {vs : List Val} (h : decP k b = some vs) : ∀ v ∈ vs, Fine v := by
  unfold decP at h
  simp only [] at h
  split at h
  · cases h
  · injection h with h; subst h; exact weave_fine _ _ (someP_fine hk _ _ _)
theorem gvals_fine (k : Int) (s : ByteArray) : ∀ v ∈ gvals k s, Fine v := by
  unfold gvals unvec
  split
  · intro v hv; simp at hv
  · split
    · intro v hv; simp at hv
    · split
      · intro v hv; simp at hv
      · rename_i hd
        split
        · exact decP_fine (by omega) hd
        · intro v hv; simp at hv
theorem gvals_good {k : Int} {s : ByteArray} (h : gcode k s = 0) : mayErr k (gvals k s) = 0 ∧ str (put k (gvals k s)) = s := by
  unfold gcode at h
  have h0 : (unvec decP k s.data.toList).2 = 0 := by omega
  have := unvec_good (dec := decP) (k := k) (s := s.data.toList) (vs := (unvec decP k s.data.toList).1) (by rw [← h0])
  exact ⟨this.1, by unfold gvals; rw [this.2, str_self]⟩
theorem gvals_none {k : Int} {s : ByteArray} (h : gcode k s ≠ 0) : gvals k s = [] := by
  unfold gcode at h
  exact unvec_bad (fun e => h (by rw [e]; rfl))
theorem put_back {k : Int} {vs : List Val} (h : mayErr k vs = 0) (hf : ∀ v ∈ vs, Fine v) : gvals k (str (put k vs)) = vs.map clean ∧ gcode k (str (put k vs)) = 0 := by
  unfold gvals gcode
  rw [str_list, unvec_back h (fun v hv => ⟨(hf v hv).i1, (hf v hv).i2⟩)]
  exact ⟨rfl, rfl⟩
theorem map_at {vs : List Val} {q : Nat} {v x : Val} (hv : vs[q]? = some v) (hx : (vs.map clean)[q]? = some x) : x = clean v := by
  rw [List.getElem?_map, hv] at hx; injection hx with hx; exact hx.symm
end Go.Proofs.YtgmemdedpklnhaaGreat.Vec
