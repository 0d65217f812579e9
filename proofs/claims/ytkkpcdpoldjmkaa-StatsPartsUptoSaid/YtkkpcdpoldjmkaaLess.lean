/-
  THE WALKS of vec.Less, stats.more, stats.lesser, boathouseref7.Null.
-/
import Derived.Test.YtkkpcdpoldjmkaaPush
import Derived.Test.YtkkpcdpoldjmkaaCmp
import Derived.Test.YtkkpcdpoldjmkaaStatMath
namespace Go.Proofs.Ytkkpcdpoldjmkaa.Stats
open Go.RowKit ValMath Vals Sl

/-- A value stored whole into a block. -/
abbrev put4 (w : World) (g o : Nat) (u : Val) : World :=
  (((w.setCell ⟨g, o, none⟩ (.int .i64 u.k)).setCell ⟨g, o + 1, none⟩ (.int .i64 u.i)).setCell ⟨g, o + 2, none⟩ (.bool u.b)).setCell ⟨g, o + 3, none⟩ (.string u.s)
theorem heap_setCell_known {w : World} {g : Nat} {cs : Array Value} {t : TypeId} {fr : Nat × Nat} (h : w.heap[g]? = some (.cells cs t fr)) (o : Nat) (v : Value) : (w.setCell ⟨g, o, none⟩ v).heap[g]? = some (.cells (cs.setIfInBounds o v) t fr) := by
  simp [World.setCell, Array.getElem?_modify, h]
theorem _root_.Go.Proofs.Ytkkpcdpoldjmkaa.Box.put {w : World} {g : Nat} {v u : Val} (h : Box w g v) : Box ((((w.setCell ⟨g, 0, none⟩ (.int .i64 u.k)).setCell ⟨g, 1, none⟩ (.int .i64 u.i)).setCell ⟨g, 2, none⟩ (.bool u.b)).setCell ⟨g, 3, none⟩ (.string u.s)) g u := by
  unfold Box at h ⊢
  rw [heap_setCell_known (heap_setCell_known (heap_setCell_known (heap_setCell_known h 0 _) 1 _) 2 _) 3 _]
  rfl
theorem _root_.Go.Proofs.Ytkkpcdpoldjmkaa.Box.other {w : World} {g g' o : Nat} {v : Val} {x : Value} (h : Box w g v) (hne : g ≠ g') : Box (w.setCell ⟨g', o, none⟩ x) g v := by
  unfold Box at h ⊢
  rw [Below.heap_setCell _ _ _ _ hne]; exact h
theorem _root_.Go.Proofs.Ytkkpcdpoldjmkaa.Box.at4 {w : World} {g : Nat} {v : Val} (h : Box w g v) : At4 w g 0 v := by obtain ⟨a, b, c, d⟩ := h.cells; exact ⟨a, b, c, d⟩
theorem below_put4 {B : Nat} {w0 w : World} (h : Below B w0 w) {g : Nat} (hg : B ≤ g) (a b c d : Nat) (u0 u1 u2 u3 : Value) : Below B w0 ((((w.setCell ⟨g, a, none⟩ u0).setCell ⟨g, b, none⟩ u1).setCell ⟨g, c, none⟩ u2).setCell ⟨g, d, none⟩ u3) :=
  (((h.setCell (p := ⟨g, a, none⟩) hg _).setCell (p := ⟨g, b, none⟩) hg _).setCell (p := ⟨g, c, none⟩) hg _).setCell (p := ⟨g, d, none⟩) hg _
theorem box_new (w : World) (g : Nat) (hg : w.heap.size = g) (u : Val) : Box (w.alloc (.cells #[.int .i64 u.k, .int .i64 u.i, .bool u.b, .string u.s] 52)) g u := by subst hg; exact Box.new w u

set_option maxRecDepth 20000 in
set_option maxHeartbeats 2000000 in
theorem less_any (a b : Val) (w : World) :
    Calls Try.prog 122 #[vagg a, vagg b] w fun e w' => e = .returned (.bool (less a b)) ∧ Below w.heap.size w w' := by
  have hA : Box ((w.alloc (.cells #[.int .i64 a.k, .int .i64 a.i, .bool a.b, .string a.s] 52)).alloc (.cells #[.int .i64 b.k, .int .i64 b.i, .bool b.b, .string b.s] 52)) w.heap.size a := (Box.new w a).alloc _
  have hB : Box ((w.alloc (.cells #[.int .i64 a.k, .int .i64 a.i, .bool a.b, .string a.s] 52)).alloc (.cells #[.int .i64 b.k, .int .i64 b.i, .bool b.b, .string b.s] 52)) (w.heap.size + 1) b := box_new _ _ (by simp) b
  have hpa := plain_any a
  have hpb := plain_any b
  have hL : less a b = (if (clean a).k ≠ (clean b).k then decide ((clean a).k < (clean b).k)
    else if (clean a).k = 1 then decide ((clean a).i < (clean b).i)
    else if (clean a).k = 2 then (!(clean a).b && (clean b).b)
    else Op.bytesLess (clean a).s.data.toList (clean b).s.data.toList) := rfl
  generalize less a b = R at hL ⊢
  generalize clean a = p at *
  generalize clean b = q at *
  obtain ⟨k1, i1, b1, s1⟩ := a
  obtain ⟨k2, i2, b2, s2⟩ := b
  obtain ⟨kp, ip, bp, sp⟩ := p
  obtain ⟨kq, iq, bq, sq⟩ := q
  simp only [] at hpa hpb hL
  have HL := Lib.hid hL; clear hL
  have HPA := Lib.hid hpa; clear hpa
  have HPB := Lib.hid hpb; clear hpb
  have HA := Lib.hid hA; clear hA
  have HB := Lib.hid hB; clear hB
  have hne : w.heap.size ≠ w.heap.size + 1 := by omega
  have hbt := Vals.two_new (w := w) (.cells #[.int .i64 k1, .int .i64 i1, .bool b1, .string s1] 52) (.cells #[.int .i64 k2, .int .i64 i2, .bool b2, .string s2] 52)
  go_enter Try.func122, Try.ntmps122
  go_upto_region 1 with fail
  go_cut [] (fun wx => Box wx w.heap.size ⟨kp, ip, bp, sp⟩ ∧ Box wx (w.heap.size + 1) ⟨kq, iq, bq, sq⟩ ∧ Below w.heap.size w wx)
  case first =>
    obtain ⟨z0, z1, z2, z3⟩ := HA.out.cells
    obtain ⟨y0, y1, y2, y3⟩ := HB.out.cells
    simp only [] at z0 z1 z2 z3 y0 y1 y2 y3
    go_region_with (first
      | (go_at_call_of 130 (Value.string s1); with_reducible refine (HPA.out _).mono ?_; rintro e w1 ⟨rfl, hb1⟩; clear z0 z1 z2 z3 y0 y1 y2 y3; have HA1 := Lib.hid (HA.out.drew.below hb1); have HB1 := Lib.hid (HB.out.drew.below hb1); obtain ⟨y0, y1, y2, y3⟩ := HB1.out.cells; simp only [] at y0 y1 y2 y3)
      | (go_at_call_of 130 (Value.string s2); with_reducible refine (HPB.out _).mono ?_; rintro e w2 ⟨rfl, hb2⟩; clear y0 y1 y2 y3; have HA2 := Lib.hid (HA1.out.below hb2); have HB2 := Lib.hid (HB1.out.below hb2); obtain ⟨z0, z1, z2, z3⟩ := HA2.out.cells; obtain ⟨y0, y1, y2, y3⟩ := HB2.out.cells; have zf0 := HA2.out.free 0; have zf1 := HA2.out.free 1; have zf2 := HA2.out.free 2; have zf3 := HA2.out.free 3; have yf0 := HB2.out.free 0; have yf1 := HB2.out.free 1; have yf2 := HB2.out.free 2; have yf3 := HB2.out.free 3; simp only [] at z0 z1 z2 z3 y0 y1 y2 y3))
    all_goals
      go_wp2_with fail
      go_meet
      refine ⟨?_, ?_, ?_⟩
      · exact ((((HA2.out.put (u := ⟨kp, ip, bp, sp⟩)).other hne).other hne).other hne).other hne
      · exact ((((HB2.out.other hne.symm).other hne.symm).other hne.symm).other hne.symm).put (u := ⟨kq, iq, bq, sq⟩)
      · have hbb := bthen (bthen hbt.drew hb1 (Nat.le_refl _)) hb2 (Nat.le_refl _)
        have hg0 : w.heap.size ≤ w.heap.size + 1 := by omega
        exact below_put4 (below_put4 hbb (Nat.le_refl _) 0 1 2 3 _ _ _ _) hg0 0 1 2 3 _ _ _ _
  case rest =>
    obtain ⟨hA, hB, hb⟩ := hcut
    clear HPA HPB HA HB hbt hne
    obtain ⟨z0, z1, z2, z3⟩ := hA.cells
    obtain ⟨y0, y1, y2, y3⟩ := hB.cells
    simp only [] at z0 z1 z2 z3 y0 y1 y2 y3
    clear hA hB
    by_cases e0 : kp = kq
    · have h0 : (kp != kq) = false := by simp [e0]
      by_cases e1 : kp = 1
      · have h1 : (kp == 1) = true := by simp [e1]
        have hR : R = decide (ip < iq) := by rw [HL.out, if_neg (by simp [e0]), if_pos e1]
        have HR := Lib.hid hR; clear hR HL e0 e1
        go_wp2
        go_ret
        exact ⟨ret_bool HR.out.symm, hb⟩
      · have h1 : (kp == 1) = false := by simpa using e1
        by_cases e2 : kp = 2
        · have h2 : (kp == 2) = true := by simp [e2]
          have hR : R = (!bp && bq) := by rw [HL.out, if_neg (by simp [e0]), if_neg e1, if_pos e2]
          have HR := Lib.hid hR; clear hR HL e0 e1 e2
          cases bp <;> cases bq
          all_goals
            go_wp2
            go_ret
            exact ⟨ret_bool (by rw [HR.out]; rfl), hb⟩
        · have h2 : (kp == 2) = false := by simpa using e2
          have hR : R = Op.bytesLess sp.data.toList sq.data.toList := by rw [HL.out, if_neg (by simp [e0]), if_neg e1, if_neg e2]
          have HR := Lib.hid hR; clear hR HL e0 e1 e2
          go_wp2
          go_ret
          exact ⟨ret_bool (by rw [HR.out]; simp [Lib.toList_data]), hb⟩
    · have h0 : (kp != kq) = true := by simpa using e0
      have hR : R = decide (kp < kq) := by rw [HL.out, if_pos e0]
      have HR := Lib.hid hR; clear hR HL e0
      go_wp2
      go_ret
      exact ⟨ret_bool HR.out.symm, hb⟩

set_option maxHeartbeats 1000000 in
theorem null_any (v : Val) (w : World) : Calls Try.prog 78 #[vagg v] w fun e w' => e = .returned (.bool (null v)) ∧ Below w.heap.size w w' := by
  have hK := kind_any v
  have hN : null v = (kindOf v == 0) := by unfold null; rw [kindOf_clean]; by_cases h : (clean v).k = 0 <;> simp [h]
  generalize kindOf v = q at hK hN
  generalize null v = R at hN ⊢
  have hbt := Vals.one_new (w := w) (.cells #[.int .i64 v.k, .int .i64 v.i, .bool v.b, .string v.s] 52)
  obtain ⟨k1, i1, b1, s1⟩ := v
  simp only [] at hK hbt
  have HN := Lib.hid hN; clear hN
  have HK := Lib.hid hK; clear hK
  go_enter Try.func78, Try.ntmps78
  go_wp2_with (go_at_call 131; with_reducible refine (HK.out _).mono ?_; rintro e w1 ⟨rfl, hb1⟩)
  go_ret
  exact ⟨ret_bool (by rw [HN.out]), bthen hbt hb1 (Nat.le_refl _)⟩

set_option maxHeartbeats 1000000 in
theorem more_any (a b : Val) (w : World) : Calls Try.prog 134 #[vagg a, vagg b] w fun e w' => e = .returned (.bool (less b a)) ∧ Below w.heap.size w w' := by
  have hK := less_any b a
  generalize less b a = R at hK ⊢
  have hbt := Vals.two_new (w := w) (.cells #[.int .i64 a.k, .int .i64 a.i, .bool a.b, .string a.s] 52) (.cells #[.int .i64 b.k, .int .i64 b.i, .bool b.b, .string b.s] 52)
  obtain ⟨k1, i1, b1, s1⟩ := a
  obtain ⟨k2, i2, b2, s2⟩ := b
  simp only [] at hK hbt
  have HK := Lib.hid hK; clear hK
  go_enter Try.func134, Try.ntmps134
  go_wp2_with (go_at_call 122; with_reducible refine (HK.out _).mono ?_; rintro e w1 ⟨rfl, hb1⟩)
  go_ret
  exact ⟨rfl, bthen hbt hb1 (Nat.le_refl _)⟩

theorem ret_box {fn : Func} {p : Tmp} {w : World} {g : Nat} {u : Val} {a : Act} {R : Ending → World → Prop} (hb : Box w g u) (h : fn.results = #[.cell p 52]) (hp : a.tmps.getD p undef = .pointer (some ⟨g, 0, none⟩)) (hd : a.defers = []) (hr : R (.returned (vagg u)) w) : bodyPost Try.prog fn R .ret a w :=
  bodyPost_ret (results_cell_row h _ _ g 52 _ (0, 0) _ hp hb Try.underlying52 rfl (by kernel_rfl)) hd hr
theorem lesser_eq (a b : Val) : lesser a b = if (null a || (!null b && less (clean b) (clean a))) then clean b else clean a := by rw [less_clean]; rfl
theorem greater_eq (a b : Val) : greater a b = if (null a || (!null b && less (clean a) (clean b))) then clean b else clean a := by rw [less_clean]; rfl
end Go.Proofs.Ytkkpcdpoldjmkaa.Stats
