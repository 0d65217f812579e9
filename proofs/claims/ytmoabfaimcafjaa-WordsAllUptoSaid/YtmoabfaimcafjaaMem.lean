/-
  THE WALKS of the statements' own helpers on memory: same, copied, lent, kept, spoiled lists of numbers and of values.
-/
import Derived.Test.YtmoabfaimcafjaaPush
namespace Go.Proofs.Ytmoabfaimcafjaa.Mem
open Go.RowKit ValMath Vals Sl

def mark : Val := ⟨77777, 0, false, ByteArray.empty⟩

set_option maxHeartbeats 1000000 in
theorem sameInts_any (A B : Option Addr) (n m c d : Nat) (xs ys : List Int) (w : World) (hx : ISl w A n xs) (hy : ISl w B m ys) (hn : n ≤ maxLen) :
    Calls Try.prog 29 #[.slice A n c, .slice B m d] w fun e w' => e = .returned (.bool (decide (xs = ys))) ∧ ∃ k, w' = w.drewN k := by
  unfold maxLen at hn
  by_cases hnm : n = m
  · subst hnm
    go_enter Try.func29, Try.ntmps29
    go_wp2
    go_loopw [5] (fun i wr => ∃ k : Nat, k ≤ n ∧ i = .int .i64 k ∧ Hid (xs.take k = ys.take k) ∧ ∃ q, wr = w.drewN q) (fun i _ => n - (intOf i).toNat)
    case atStart => exact ⟨0, Nat.zero_le _, rfl, by show xs.take 0 = ys.take 0; simp, 0, rfl⟩
    case round =>
      obtain ⟨k, hk, rfl, hrk, q, rfl⟩ := hrel
      by_cases hlt : k < n
      · obtain ⟨b1, o1, x1, hv1, rfl, _, c0⟩ := hx.at_ hlt
        obtain ⟨b2, o2, x2, hv2, rfl, _, d0⟩ := hy.at_ hlt
        have HX := Lib.hid hx; clear hx
        have HY := Lib.hid hy; clear hy
        have HV1 := Lib.hid hv1; clear hv1
        have HV2 := Lib.hid hv2; clear hv2
        by_cases he : x1 = x2
        · have hq : (x1 != x2) = false := by simp [he]
          have HE := Lib.hid he; clear he
          go_wp2
          go_quiet (fail)
          go_wp2
          go_roundw
          case rel => exact ⟨k + 1, by omega, by go_num, by show _ = _; rw [take_more HV1.out, take_more HV2.out, hrk.out, HE.out], _, rfl⟩
          case measure => simp [intOf]; omega
        · have hq : (x1 != x2) = true := by simpa using he
          have hF : decide (xs = ys) = false := decide_eq_false fun e => he (by
            have h1 := HV1.out; rw [e, HV2.out] at h1; injection h1 with h1; exact h1.symm)
          have HF := Lib.hid hF; clear hF he
          go_wp2
          go_quiet (fail)
          go_wp2
          go_ret
          exact ⟨ret_bool HF.out.symm, _, by rw [World.drewN_drewN]⟩
      · have hF : decide (xs = ys) = true := decide_eq_true (by
          have h := hrk.out
          rwa [List.take_of_length_le (by rw [hx.1]; omega), List.take_of_length_le (by rw [hy.1]; omega)] at h)
        have HF := Lib.hid hF; clear hF
        go_wp2
        go_ret
        exact ⟨ret_bool HF.out.symm, _, rfl⟩
  · have hF : decide (xs = ys) = false := decide_eq_false fun e => hnm (by rw [← hx.1, ← hy.1, e])
    have HF := Lib.hid hF; clear hF
    have hne : ((n : Int) != (m : Int)) = true := by simp; omega
    go_enter Try.func29, Try.ntmps29
    go_wp2
    go_ret
    exact ⟨ret_bool HF.out.symm, 0, rfl⟩

theorem made0 (w : World) (e : TypeId) (size : Nat) : (w.alloc (.cells #[] e)).ownsRow w.heap.size e size (.slice (some ⟨w.heap.size, 0, none⟩) 0 0) 0 [] :=
  World.ownsRow_made w #[] 0 (Nat.le_refl _) (by unfold maxLen; omega) (by simp)

set_option maxHeartbeats 1000000 in
theorem copyValues_any (A : Option Addr) (n c : Nat) (vs : List Val) (w : World) (hv : VArg w A n c vs) :
    Calls Try.prog 61 #[.slice A n c] w fun e w' => ∃ g k, e = .returned (.slice (some ⟨g, 0, none⟩) n k) ∧ OwnV w' w.heap.size (.slice (some ⟨g, 0, none⟩) n k) vs ∧ Below w.heap.size w w' := by
  have hown : OwnV (w.alloc (.cells #[] 38)) w.heap.size (.slice (some ⟨w.heap.size, 0, none⟩) 0 0) [] := made0 w 38 4
  have hs := hv.sl.below (Vals.one_new (w := w) (.cells #[] 38))
  have hlen := hv.sl.1
  have h1 := hv.le
  have h2 := hv.cap
  have HO := Lib.hid hown; clear hown
  have HS := Lib.hid hs; clear hs
  have HL := Lib.hid hlen; clear hlen
  have HN := Lib.hid hv.nil; clear hv
  go_enter Try.func61, Try.ntmps61
  go_wp2_with (refine wpList_pushes_val rfl _ _ rfl w.heap.size (.slice (some ⟨w.heap.size, 0, none⟩) 0 0) [] vs A n c rfl rfl HS.out HN.out HO.out (by rw [HL.out]; unfold few; simp; omega) (by simp) ?_; intro u wA hA hgA hatA hnA)
  have hA' : OwnV wA w.heap.size u vs := hA
  obtain ⟨A', c', rfl, hsl, hcm⟩ := hA'.form' HL.out
  cases A' with
  | none =>
    exfalso
    have := own_nil_cap hA'
    have h3 := hnA.1 (by rw [this.1, this.2])
    cases h3.1
  | some ad =>
    obtain ⟨g, k, e⟩ : ∃ g k, (Value.slice (some ad) n c') = .slice (some ⟨g, 0, none⟩) n k := by
      rcases hA'.2 with ⟨e, _⟩ | ⟨g, k, cur, e, _⟩
      · cases e
      · rw [HL.out] at e; exact ⟨g, k, e⟩
    rw [e] at hA' ⊢
    go_ret
    refine ⟨g, k, rfl, hA', ?_⟩
    exact (Vals.one_new _).grown hgA (by simp) (fun j hj => by simp only [Value.ownBlock, Option.some.injEq] at hj; omega)
set_option maxHeartbeats 1000000 in
theorem copyInts_any (A : Option Addr) (n c : Nat) (xs : List Int) (w : World) (hv : IArg w A n c xs) :
    Calls Try.prog 62 #[.slice A n c] w fun e w' => ∃ g k, e = .returned (.slice (some ⟨g, 0, none⟩) n k) ∧ OwnI w' w.heap.size (.slice (some ⟨g, 0, none⟩) n k) xs ∧ Below w.heap.size w w' := by
  have hown : OwnI (w.alloc (.cells #[] 3)) w.heap.size (.slice (some ⟨w.heap.size, 0, none⟩) 0 0) [] := made0 w 3 1
  have hs := hv.sl.below (Vals.one_new (w := w) (.cells #[] 3))
  have hlen := hv.sl.1
  have h1 := hv.le
  have h2 := hv.cap
  have HO := Lib.hid hown; clear hown
  have HS := Lib.hid hs; clear hs
  have HL := Lib.hid hlen; clear hlen
  have HN := Lib.hid hv.nil; clear hv
  go_enter Try.func62, Try.ntmps62
  go_wp2_with (refine wpList_pushes_int rfl _ _ rfl w.heap.size (.slice (some ⟨w.heap.size, 0, none⟩) 0 0) [] xs A n c rfl rfl HS.out HN.out HO.out (by rw [HL.out]; unfold fewI; simp; omega) (by simp) ?_; intro u wA hA hgA hatA hnA)
  have hA' : OwnI wA w.heap.size u xs := hA
  obtain ⟨A', c', rfl, _, _, _⟩ := hA'.form HL.out
  cases A' with
  | none =>
    exfalso
    have := own_nil_cap hA'
    have h3 := hnA.1 (by rw [this.1, this.2])
    cases h3.1
  | some ad =>
    obtain ⟨g, k, e⟩ : ∃ g k, (Value.slice (some ad) n c') = .slice (some ⟨g, 0, none⟩) n k := by
      rcases hA'.2 with ⟨e, _⟩ | ⟨g, k, cur, e, _⟩
      · cases e
      · rw [HL.out] at e; exact ⟨g, k, e⟩
    rw [e] at hA' ⊢
    go_ret
    refine ⟨g, k, rfl, hA', ?_⟩
    exact (Vals.one_new _).grown hgA (by simp) (fun j hj => by simp only [Value.ownBlock, Option.some.injEq] at hj; omega)

/-- A list lent: n values at the head of a row of the call's own, two marked ones behind them. -/
structure LentV (w : World) (B g n c : Nat) (vs : List Val) : Prop where
  own : OwnV w B (.slice (some ⟨g, 0, none⟩) (n + 2) c) (vs ++ [mark, mark])
  len : vs.length = n
structure LentI (w : World) (B g n c : Nat) (xs : List Int) : Prop where
  own : OwnI w B (.slice (some ⟨g, 0, none⟩) (n + 2) c) (xs ++ [-7777, -8888])
  len : xs.length = n
theorem LentV.cap {w : World} {B g n c : Nat} {vs : List Val} (h : LentV w B g n c vs) : n + 2 ≤ c ∧ c ≤ maxLen := (own_len h.own).2
theorem LentI.cap {w : World} {B g n c : Nat} {vs : List Int} (h : LentI w B g n c vs) : n + 2 ≤ c ∧ c ≤ maxLen := (own_len h.own).2
theorem LentV.full {w : World} {B g n c : Nat} {vs : List Val} (h : LentV w B g n c vs) : VSl w (some ⟨g, 0, none⟩) (n + 2) (vs ++ [mark, mark]) := h.own.sl (by rw [List.length_append, h.len]; rfl)
theorem LentI.full {w : World} {B g n c : Nat} {vs : List Int} (h : LentI w B g n c vs) : ISl w (some ⟨g, 0, none⟩) (n + 2) (vs ++ [-7777, -8888]) := h.own.sl (by rw [List.length_append, h.len]; rfl)
theorem LentV.sl {w : World} {B g n c : Nat} {vs : List Val} (h : LentV w B g n c vs) : VSl w (some ⟨g, 0, none⟩) n vs := by
  have := h.full.take (m := n) (by omega)
  rwa [List.take_append_of_le_length (by rw [h.len]; exact Nat.le_refl _), List.take_of_length_le (by rw [h.len]; exact Nat.le_refl _)] at this
theorem LentI.sl {w : World} {B g n c : Nat} {vs : List Int} (h : LentI w B g n c vs) : ISl w (some ⟨g, 0, none⟩) n vs := by
  have := h.full.take (m := n) (by omega)
  rwa [List.take_append_of_le_length (by rw [h.len]; exact Nat.le_refl _), List.take_of_length_le (by rw [h.len]; exact Nat.le_refl _)] at this
theorem LentV.below {w w' : World} {B g n c : Nat} {vs : List Val} (h : LentV w B g n c vs) (hb : Below w.heap.size w w') : LentV w' B g n c vs := ⟨h.own.below hb, h.len⟩
theorem LentI.below {w w' : World} {B g n c : Nat} {vs : List Int} (h : LentI w B g n c vs) (hb : Below w.heap.size w w') : LentI w' B g n c vs := ⟨h.own.below hb, h.len⟩
theorem LentV.grown {w w' : World} {B g n c : Nat} {vs : List Val} {row : Option Nat} (h : LentV w B g n c vs) (hg : w.grownBy w' row) (hr : some g ≠ row) : LentV w' B g n c vs := ⟨World.ownsRow.kept h.own hg (.inr hr), h.len⟩
theorem LentI.grown {w w' : World} {B g n c : Nat} {vs : List Int} {row : Option Nat} (h : LentI w B g n c vs) (hg : w.grownBy w' row) (hr : some g ≠ row) : LentI w' B g n c vs := ⟨World.ownsRow.kept h.own hg (.inr hr), h.len⟩
theorem LentV.base {w : World} {B g n c : Nat} {vs : List Val} (h : LentV w B g n c vs) : B ≤ g ∧ g < w.heap.size := own_base_of h.own
theorem LentI.base {w : World} {B g n c : Nat} {vs : List Int} (h : LentI w B g n c vs) : B ≤ g ∧ g < w.heap.size := own_base_of h.own

set_option maxHeartbeats 1000000 in
theorem lendValues_any (A : Option Addr) (n c : Nat) (vs : List Val) (w : World) (hv : VArg w A n c vs) :
    Calls Try.prog 22 #[.slice A n c] w fun e w' => ∃ g k, e = .returned (.slice (some ⟨g, 0, none⟩) n k) ∧ LentV w' w.heap.size g n k vs ∧ Below w.heap.size w w' := by
  have HC := Lib.hid (copyValues_any A n c vs w hv)
  have hlen := hv.sl.1
  have h1 := hv.le
  have h2 := hv.cap
  have HL := Lib.hid hlen; clear hlen hv
  go_enter Try.func22, Try.ntmps22
  go_wp2_with (first
    | (go_at_call 61; with_reducible refine HC.out.mono ?_; rintro e w1 ⟨g1, k1, rfl, hO1, hb1⟩; have HO1 := Lib.hid hO1; clear hO1)
    | (refine wpList_pushes_val rfl _ _ rfl w.heap.size (.slice (some ⟨g1, 0, none⟩) n k1) vs [mark, mark] _ 2 2 rfl rfl (VSl.new2 w1 mark mark _) (fun h => by cases h) (HO1.out.alloc _) (by rw [HL.out]; unfold few; simp; omega) (by have := hb1.size; simp; omega) ?_; intro u wA hA hgA hatA hnA; obtain ⟨g, k, rfl⟩ := own_lit hA (m := n + 2) (by simp [HL.out]) (fun e => by cases (hnA.1 e).2); have hcap := (own_len hA).2; have HA := Lib.hid hA; clear hA hatA hnA))
  go_ret
  refine ⟨g, k, rfl, ⟨HA.out, HL.out⟩, ?_⟩
  exact (hb1.alloc hb1.size _).grown hgA (by have := hb1.size; simp; omega) (fun j hj => by simp only [Value.ownBlock, Option.some.injEq] at hj; have := (own_base_of HO1.out).1; omega)
set_option maxHeartbeats 1000000 in
theorem lendInts_any (A : Option Addr) (n c : Nat) (xs : List Int) (w : World) (hv : IArg w A n c xs) :
    Calls Try.prog 23 #[.slice A n c] w fun e w' => ∃ g k, e = .returned (.slice (some ⟨g, 0, none⟩) n k) ∧ LentI w' w.heap.size g n k xs ∧ Below w.heap.size w w' := by
  have HC := Lib.hid (copyInts_any A n c xs w hv)
  have hlen := hv.sl.1
  have h1 := hv.le
  have h2 := hv.cap
  have HL := Lib.hid hlen; clear hlen hv
  go_enter Try.func23, Try.ntmps23
  go_wp2_with (first
    | (go_at_call 62; with_reducible refine HC.out.mono ?_; rintro e w1 ⟨g1, k1, rfl, hO1, hb1⟩; have HO1 := Lib.hid hO1; clear hO1)
    | (refine wpList_pushes_int rfl _ _ rfl w.heap.size (.slice (some ⟨g1, 0, none⟩) n k1) xs [-7777, -8888] _ 2 2 rfl rfl (ISl.new w1 [-7777, -8888] _ _ rfl) (fun h => by cases h) (HO1.out.alloc _) (by rw [HL.out]; unfold fewI; simp; omega) (by have := hb1.size; simp; omega) ?_; intro u wA hA hgA hatA hnA; obtain ⟨g, k, rfl⟩ := own_lit hA (m := n + 2) (by simp [HL.out]) (fun e => by cases (hnA.1 e).2); have hcap := (own_len hA).2; have HA := Lib.hid hA; clear hA hatA hnA))
  go_ret
  refine ⟨g, k, rfl, ⟨HA.out, HL.out⟩, ?_⟩
  exact (hb1.alloc hb1.size _).grown hgA (by have := hb1.size; simp; omega) (fun j hj => by simp only [Value.ownBlock, Option.some.injEq] at hj; have := (own_base_of HO1.out).1; omega)

theorem add_last {α : Type} {l : List α} {a b : α} {n : Nat} (h : l.length = n) : (l ++ [a, b])[n]? = some a ∧ (l ++ [a, b])[n + 1]? = some b := by
  subst h; constructor
  · rw [List.getElem?_append_right (by omega), Nat.sub_self]; rfl
  · rw [List.getElem?_append_right (by omega), Nat.add_sub_cancel_left]; rfl

set_option maxHeartbeats 1000000 in
theorem keptValues_any (A : Option Addr) (B g n c d : Nat) (vs : List Val) (w : World) (hL : LentV w B g n c vs) (hv : VSl w A n vs) :
    Calls Try.prog 30 #[.slice (some ⟨g, 0, none⟩) n c, .slice A n d] w fun e w' => e = .returned (.bool true) ∧ Below w.heap.size w w' := by
  have hcap := hL.cap
  unfold maxLen at hcap
  have hS := sameValues_any (some ⟨g, 0, none⟩) A n n c d vs vs w hL.sl hv (by unfold maxLen; omega)
  rw [decide_eq_true rfl] at hS
  obtain ⟨b0, o0, v0, e0, hA0, _, c0, c1, c2, c3⟩ := hL.full.at_ (k := n) (by omega)
  obtain ⟨b1, o1, v1, e1, hA1, _, d0, d1, d2, d3⟩ := hL.full.at_ (k := n + 1) (by omega)
  rw [(add_last hL.len).1] at e0
  rw [(add_last hL.len).2] at e1
  injection e0 with e0; injection e1 with e1
  subst e0; subst e1
  injection hA0 with hA0; injection hA0 with h1 h2; subst h1; subst h2
  injection hA1 with hA1; injection hA1 with h1 h2; subst h1; subst h2
  simp only [mark, Nat.zero_add] at c0 c1 c2 c3 d0 d1 d2 d3
  have HS := Lib.hid hS; clear hS hL hv
  have hq : ∀ W, (binOp .eql 38 (.agg #[.int .i64 77777, .int .i64 0, .bool false, .string ByteArray.empty]) (.agg #[.int .i64 77777, .int .i64 0, .bool false, .string ByteArray.empty])).run Try.prog W = .ok (.bool true) W := fun W => by
    have := eql_val mark mark W
    rw [decide_eq_true rfl] at this; exact this
  have hg := fun x y W => guard_val .eql x y #[.int .i64 77777, .int .i64 0, .bool false, .string ByteArray.empty] #[.int .i64 77777, .int .i64 0, .bool false, .string ByteArray.empty] W
  go_enter Try.func30, Try.ntmps30
  go_wp2_with (go_at_call 28; with_reducible refine HS.out.mono ?_; rintro e w1 ⟨rfl, q, rfl⟩)
  go_ret
  exact ⟨rfl, below_drewN (Below.refl _ _) _⟩

set_option maxHeartbeats 1000000 in
theorem keptInts_any (A : Option Addr) (B g n c d : Nat) (xs : List Int) (w : World) (hL : LentI w B g n c xs) (hv : ISl w A n xs) :
    Calls Try.prog 31 #[.slice (some ⟨g, 0, none⟩) n c, .slice A n d] w fun e w' => e = .returned (.bool true) ∧ Below w.heap.size w w' := by
  have hcap := hL.cap
  unfold maxLen at hcap
  have hS := sameInts_any (some ⟨g, 0, none⟩) A n n c d xs xs w hL.sl hv (by unfold maxLen; omega)
  rw [decide_eq_true rfl] at hS
  obtain ⟨b0, o0, v0, e0, hA0, _, c0⟩ := hL.full.at_ (k := n) (by omega)
  obtain ⟨b1, o1, v1, e1, hA1, _, d0⟩ := hL.full.at_ (k := n + 1) (by omega)
  rw [(add_last hL.len).1] at e0
  rw [(add_last hL.len).2] at e1
  injection e0 with e0; injection e1 with e1
  subst e0; subst e1
  injection hA0 with hA0; injection hA0 with h1 h2; subst h1; subst h2
  injection hA1 with hA1; injection hA1 with h1 h2; subst h1; subst h2
  simp only [Nat.zero_add] at c0 d0
  have HS := Lib.hid hS; clear hS hL hv
  go_enter Try.func31, Try.ntmps31
  go_wp2_with (go_at_call 29; with_reducible refine HS.out.mono ?_; rintro e w1 ⟨rfl, q, rfl⟩)
  go_ret
  exact ⟨rfl, below_drewN (Below.refl _ _) _⟩

theorem own_put_int {w : World} {B g n c : Nat} {ys : List Int} (h : OwnI w B (.slice (some ⟨g, 0, none⟩) n c) ys) (hl : ys.length = n) (k : Nat) (z : Int) :
    OwnI (w.setCell ⟨g, k, none⟩ (.int .i64 z)) B (.slice (some ⟨g, 0, none⟩) n c) (ys.set k z) := by
  unfold OwnI at h ⊢
  rw [hl] at h
  rw [List.length_set, hl, show icells (ys.set k z) = (icells ys).set k (.int .i64 z) from by simp [icells, List.map_set]]
  exact (World.ownsRow.stored h k (.int .i64 z)).1
theorem grown_set (w : World) (g k : Nat) (v : Value) {n c : Nat} : w.grownBy (w.setCell ⟨g, k, none⟩ v) (Value.slice (some ⟨g, 0, none⟩) n c).ownBlock :=
  ⟨rfl, rfl, rfl, by simp, fun j _ hne => Below.heap_setCell _ _ _ _ (fun e => hne (by rw [e]; rfl))⟩

set_option maxHeartbeats 1000000 in
theorem spoilInts_any (A : Option Addr) (B n c : Nat) (xs : List Int) (w : World) (h : OwnI w B (.slice A n c) xs) (hl : xs.length = n) (hn : n ≤ maxLen) :
    Calls Try.prog 33 #[.slice A n c] w fun e w' => e = .returned (.tuple #[]) ∧ w.grownBy w' (Value.slice A n c).ownBlock := by
  unfold maxLen at hn
  go_enter Try.func33, Try.ntmps33
  go_wp2
  go_loopw [2] (fun i wr => ∃ k : Nat, k ≤ n ∧ i = .int .i64 k ∧ (∃ ys : List Int, ys.length = n ∧ OwnI wr B (.slice A n c) ys) ∧ w.grownBy wr (Value.slice A n c).ownBlock) (fun i _ => n - (intOf i).toNat)
  case atStart => exact ⟨0, Nat.zero_le _, rfl, ⟨xs, hl, h⟩, World.grownBy.refl _ _⟩
  case round =>
    obtain ⟨k, hk, rfl, ⟨ys, hyl, hO⟩, hg⟩ := hrel
    by_cases hlt : k < n
    · obtain ⟨A', c', e, _, _, hc⟩ := hO.form hyl
      injection e with e1 e2 e3
      subst e1; subst e3
      obtain ⟨g, rfl, _, _, hf, hc⟩ := hc (by omega)
      have hcell : wr.cell? ⟨g, k, none⟩ = some (.int .i64 (ys[k]'(by omega))) := hc k (by omega)
      have hfr := hf k
      generalize ys[k]'(by omega) = y at hcell
      have HO := Lib.hid hO; clear hO h hc hf e2
      have HG := Lib.hid hg; clear hg
      go_wp2
      go_roundw
      case rel => exact ⟨k + 1, by omega, by go_num, ⟨_, by rw [List.length_set]; exact hyl, own_put_int HO.out hyl k _⟩, HG.out.trans (grown_set wr g k _)⟩
      case measure => simp [intOf]; omega
    · go_wp2
      go_end0
      exact ⟨rfl, hg⟩
theorem vscells_set (vs : List Val) (k : Nat) (hk : k < vs.length) (x : Int) : vscells (vs.set k { vs[k] with i := x }) = (vscells vs).set (k * 4 + 1) (.int .i64 x) := by
  induction vs generalizing k with
  | nil => simp at hk
  | cons v vs ih =>
    cases k with
    | zero => simp [vscells, vcells]
    | succ k =>
      have := ih k (by simpa using hk)
      simp only [vscells, List.set_cons_succ, List.flatMap_cons, List.getElem_cons_succ] at this ⊢
      rw [this, List.set_append_right _ _ (by simp [vcells]; omega)]
      congr 2
      simp [vcells]; omega
theorem own_put_val {w : World} {B g n c : Nat} {vs : List Val} (h : OwnV w B (.slice (some ⟨g, 0, none⟩) n c) vs) (hl : vs.length = n) (k : Nat) (hk : k < vs.length) (x : Int) :
    OwnV (w.setCell ⟨g, k * 4 + 1, none⟩ (.int .i64 x)) B (.slice (some ⟨g, 0, none⟩) n c) (vs.set k { vs[k] with i := x }) := by
  unfold OwnV at h ⊢
  rw [hl] at h
  rw [List.length_set, hl, vscells_set vs k hk x]
  exact (World.ownsRow.stored h (k * 4 + 1) (.int .i64 x)).1

set_option maxHeartbeats 1000000 in
theorem spoilValues_any (A : Option Addr) (B n c : Nat) (vs : List Val) (w : World) (h : OwnV w B (.slice A n c) vs) (hl : vs.length = n) (hn : n ≤ maxLen) :
    Calls Try.prog 32 #[.slice A n c] w fun e w' => e = .returned (.tuple #[]) ∧ w.grownBy w' (Value.slice A n c).ownBlock := by
  unfold maxLen at hn
  go_enter Try.func32, Try.ntmps32
  go_wp2
  go_loopw [2] (fun i wr => ∃ k : Nat, k ≤ n ∧ i = .int .i64 k ∧ (∃ ys : List Val, ys.length = n ∧ OwnV wr B (.slice A n c) ys) ∧ w.grownBy wr (Value.slice A n c).ownBlock) (fun i _ => n - (intOf i).toNat)
  case atStart => exact ⟨0, Nat.zero_le _, rfl, ⟨vs, hl, h⟩, World.grownBy.refl _ _⟩
  case round =>
    obtain ⟨k, hk, rfl, ⟨ys, hyl, hO⟩, hg⟩ := hrel
    by_cases hlt : k < n
    · have hsl := hO.sl hyl
      obtain ⟨g, rfl, hfr⟩ : ∃ g, A = some ⟨g, 0, none⟩ ∧ ∀ j, wr.frozen? ⟨g, j, none⟩ = false := by
        rcases hO.2 with ⟨e, h0⟩ | ⟨g, cap, cur, e, _⟩
        · omega
        · injection e with e1 e2 e3
          subst e1; subst e3
          refine ⟨g, rfl, fun j => World.ownsRow.frozenAt (show World.ownsRow wr B 38 4 (.slice (some ⟨g, 0, none⟩) ys.length c) ys.length (vscells ys) by rw [hyl]; have := hO; unfold OwnV at this; rwa [hyl] at this) j⟩
      have hkl : k < ys.length := by omega
      obtain ⟨b, off, hA, _, hc⟩ := hsl.2 (by omega)
      injection hA with hA; injection hA with h1 h2; subst h1; subst h2
      obtain ⟨_, c1, _, _⟩ := hc k hkl
      have hf := hfr (k * 4 + 1)
      rw [Nat.zero_add] at c1
      have HP := fun x => own_put_val hO hyl k hkl x
      have HO := Lib.hid HP; clear HP hO h hc hfr hsl
      generalize ys[k].i = y at c1
      have HG := Lib.hid hg; clear hg
      go_wp2
      go_roundw
      case rel => exact ⟨k + 1, by omega, by go_num, ⟨_, by rw [List.length_set]; exact hyl, HO.out _⟩, HG.out.trans (grown_set wr g _ _)⟩
      case measure => simp [intOf]; omega
    · go_wp2
      go_end0
      exact ⟨rfl, hg⟩
end Go.Proofs.Ytmoabfaimcafjaa.Mem
