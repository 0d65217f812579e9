/-
  THE WALK of StatsNone.
-/
import Derived.Test.YtkkpcdpoldjmkaaAwake10
import Derived.Test.YtkkpcdpoldjmkaaMake
import Derived.Test.YtkkpcdpoldjmkaaMem
import Derived.Test.YtkkpcdpoldjmkaaCrcLaws
namespace Go.Proofs.Ytkkpcdpoldjmkaa.Stats
open Go.RowKit ValMath Vals Sl Mem

theorem made_at (n i j : Nat) (hi : i < n) (hj : j < 4) (z0 z1 z2 z3 : Value) : (madeCells #[z0, z1, z2, z3] (n * 4)).toList[i * 4 + j]? = #[z0, z1, z2, z3][j]? := by
  rw [Array.getElem?_toList]
  unfold madeCells
  rw [Array.getElem?_map, Array.getElem?_range, if_pos (by omega)]
  simp only [Option.map_some, List.size_toArray, List.length_cons, List.length_nil]
  rw [show (i * 4 + j) % (0 + 1 + 1 + 1 + 1) = j by omega]
  match j, hj with
  | 0, _ => rfl
  | 1, _ => rfl
  | 2, _ => rfl
  | 3, _ => rfl
section
variable {w : World} {ops : Array Oper} {rest : List Oper} {o : Oper} {a : Act} {Q : Exit → Act → World → Prop}
theorem wpList_make_vals (hg : o.guard = none) (l c : Operand) (hop : o.op = Op.makeSlice 36 l c) (kl kc : IntKind) (L C : Int) (n : Nat) (hl : a.eval l = .int kl L) (hc : a.eval c = .int kc C) (hL : L = (n : Int)) (hC : C = (n : Int))
    (b2 : n ≤ 1000)
    (hK : ∀ w', VSl w' (some ⟨w.heap.size, 0, none⟩) n (List.replicate n nul) → Below w.heap.size w w' → wpList Try.prog ops Q rest (a.put o.dst (.slice (some ⟨w.heap.size, 0, none⟩) n n)) w') :
    wpList Try.prog ops Q (o :: rest) a w := by
  obtain ⟨i0, hi, hz, hs, hb⟩ := info_parts info_val
  refine wpList_make_full w hg l c _ hop w.heap.size 52 i0 _ 4 Try.underlying36 hi hz hs kl kc L C n hl hc hL hC (by rw [hb]; omega) (by unfold maxLen; omega) (Nat.le_refl _) fun w' h1 h2 => hK w' ?_ ((Below.refl _ _).grown h2 (Nat.le_refl _) (fun j hj => by cases hj))
  refine ⟨by simp, fun hn => ⟨w.heap.size, 0, rfl, (h1.lt _ rfl).2, fun i hi => ?_⟩⟩
  rw [List.length_replicate] at hi
  have e : ∀ (h : i < (List.replicate n nul).length), (List.replicate n nul)[i] = nul := fun h => List.getElem_replicate h
  rw [e]
  have hm := fun j (hj : j < 4) => made_at n i j hi hj (.int .i64 0) (.int .i64 0) (.bool false) (.string ByteArray.empty)
  have hc := fun j (hj : j < 4) => World.ownsRow.cellAt h1 (i * 4 + j) (by omega)
  refine ⟨?_, ?_, ?_, ?_⟩
  · have := (hc 0 (by omega)).trans (hm 0 (by omega)); rw [Nat.zero_add]; exact this
  · have := (hc 1 (by omega)).trans (hm 1 (by omega)); rw [Nat.zero_add]; exact this
  · have := (hc 2 (by omega)).trans (hm 2 (by omega)); rw [Nat.zero_add]; exact this
  · have := (hc 3 (by omega)).trans (hm 3 (by omega)); rw [Nat.zero_add]; exact this
end
/-- The cells of a box, as a walk wants them. -/
def SC (w : World) (g : Nat) (c n : Int) (mn mx : Val) : Prop :=
  w.cell? ⟨g, 0, none⟩ = some (.int .i64 c) ∧ w.cell? ⟨g, 1, none⟩ = some (.int .i64 n) ∧ w.cell? ⟨g, 2, none⟩ = some (.int .i64 mn.k) ∧ w.cell? ⟨g, 3, none⟩ = some (.int .i64 mn.i) ∧ w.cell? ⟨g, 4, none⟩ = some (.bool mn.b) ∧ w.cell? ⟨g, 5, none⟩ = some (.string mn.s) ∧ w.cell? ⟨g, 6, none⟩ = some (.int .i64 mx.k) ∧ w.cell? ⟨g, 7, none⟩ = some (.int .i64 mx.i) ∧ w.cell? ⟨g, 8, none⟩ = some (.bool mx.b) ∧ w.cell? ⟨g, 9, none⟩ = some (.string mx.s)

set_option maxRecDepth 100000 in
set_option maxHeartbeats 8000000 in
theorem statsNone_any (c many : Int) (a : Sta) (w : World) (_hc : (Lit.int .i64 c).wf = true) (_hm : (Lit.int .i64 many).wf = true) (ha : FineS a) :
    Calls Try.prog 13 #[.int .i64 c, .int .i64 many, sagg1 a] w fun e w' => e = .returned (.bool true) ∧ Below w.heap.size w w' := by
  clear _hc _hm
  obtain ⟨m, hmm⟩ : ∃ m : Nat, m = (many % 64).toNat := ⟨_, rfl⟩
  have ham : bits .and .i64 many 63 = (m : Int) := by
    have := and_mask_i64 many 6 (by omega)
    rw [show ((2 ^ 6 - 1 : Nat) : Int) = 63 from rfl] at this
    rw [this, hmm]; omega
  have hm64 : m < 64 := by omega
  clear hmm
  have hO : ∀ (A : Option Addr) (cap : Nat) (w : World), VSl w A m (List.replicate m nul) → Calls Try.prog 73 #[.int .i64 c, .slice A m cap] w fun e w' => e = .returned (sagg c m nul nul) ∧ Below w.heap.size w w' := fun A cap w h => by
    have := of_any c A m cap _ w h (by unfold maxLen; omega)
    rw [stat_nuls] at this; exact this
  have hO0 : ∀ (w : World), Calls Try.prog 73 #[.int .i64 c, .slice none 0 0] w fun e w' => e = .returned (sagg c 0 nul nul) ∧ Below w.heap.size w w' := fun w => by
    have := of_any c none 0 0 [] w (VSl.none_ w) (by unfold maxLen; omega)
    exact this
  have hJ1 : ∀ w, Calls Try.prog 75 #[sagg c 0 nul nul, sagg c m nul nul] w fun e w' => e = .returned (sagg c m nul nul) ∧ Below w.heap.size w w' := fun w => join_any c 0 c m m nul nul nul nul w (by rw [Int.zero_add]; exact IntWalk.i64_in _ (by omega))
  have hJ2 : ∀ w, Calls Try.prog 75 #[sagg c m nul nul, sagg c 0 nul nul] w fun e w' => e = .returned (sagg c m nul nul) ∧ Below w.heap.size w w' := fun w => join_any c m c 0 m nul nul nul nul w (by rw [Int.add_zero]; exact IntWalk.i64_in _ (by omega))
  have hJ3 : ∀ w, Calls Try.prog 75 #[sagg1 a, sagg c 0 nul nul] w fun e w' => e = .returned (sagg a.c a.n (lesser a.mn nul) (greater a.mx nul)) ∧ Below w.heap.size w w' := fun w => join_any a.c a.n c 0 a.n a.mn a.mx nul nul w (by rw [Int.add_zero]; exact IntWalk.i64_in _ (by have := ha.n0; have := ha.n1; omega))
  have hq1 := eql_stat c m nul nul
  have hq2 := eql_stat c 0 nul nul
  obtain ⟨ac, an, ⟨ka, ia, ba, sa⟩, ⟨kx, ix, bx, sx⟩⟩ := a
  generalize lesser _ nul = l at hJ3
  generalize greater _ nul = g at hJ3
  obtain ⟨kl, il, bl, sl⟩ := l
  obtain ⟨kg, ig, bg, sg⟩ := g
  have hfn := field_n ac an ⟨kl, il, bl, sl⟩ ⟨kg, ig, bg, sg⟩
  simp only [show nul = (⟨0, 0, false, ⟨#[]⟩⟩ : Val) from rfl, sagg, sagg1] at hO hO0 hJ1 hJ2 hJ3 hq1 hq2 hfn
  have HO := Lib.hid hO; clear hO
  have HO0 := Lib.hid hO0; clear hO0
  have HJ1 := Lib.hid hJ1; clear hJ1
  have HJ2 := Lib.hid hJ2; clear hJ2
  have HJ3 := Lib.hid hJ3; clear hJ3 ha
  go_enter Try.func13, Try.ntmps13
  go_wp2_with fail
  refine (awake_any _).mono ?_
  rintro e w1 ⟨rfl, hb1⟩
  have HA := Lib.hid (SBox.below (SBox.new w _ rfl ac an ⟨ka, ia, ba, sa⟩ ⟨kx, ix, bx, sx⟩) hb1 (SBox.new w _ rfl ac an ⟨ka, ia, ba, sa⟩ ⟨kx, ix, bx, sx⟩).lt)
  have HBT := Lib.hid (bthen (Vals.one_new _) hb1 (Nat.le_refl _)); clear hb1
  go_wp2_with (at_make; refine wpList_make_vals rfl _ _ rfl .i64 .i64 _ _ m rfl rfl rfl rfl (by omega) ?_; intro w2 hv2 hb2; have HV := Lib.hid hv2; replace HA := Lib.hid (SBox.below HA.out hb2 HA.out.lt); replace HBT := Lib.hid (bthen HBT.out hb2 (Nat.le_refl _)); clear hv2 hb2)
  with_reducible refine (HO.out _ _ _ HV.out).mono ?_
  rintro e w3 ⟨rfl, hb3⟩
  replace HA := Lib.hid (SBox.below HA.out hb3 HA.out.lt)
  replace HBT := Lib.hid (bthen HBT.out hb3 (Nat.le_refl _)); clear hb3 HV
  go_wp2_with fail
  with_reducible refine (HO0.out _).mono ?_
  rintro e w4 ⟨rfl, hb4⟩
  have H8 := Lib.hid (SBox.below (SBox.new w3 _ rfl c m ⟨0, 0, false, ⟨#[]⟩⟩ ⟨0, 0, false, ⟨#[]⟩⟩) hb4 (SBox.new w3 _ rfl c m ⟨0, 0, false, ⟨#[]⟩⟩ ⟨0, 0, false, ⟨#[]⟩⟩).lt)
  replace HA := Lib.hid (SBox.below (HA.out.alloc _) hb4 (HA.out.alloc _).lt)
  replace HBT := Lib.hid (bthen (HBT.out.alloc HBT.out.size _) hb4 (Nat.le_refl _)); clear hb4
  generalize w3.heap.size = g8 at *
  have l8 := H8.out.lt
  obtain ⟨x0, x1, x2, x3, x4, x5, x6, x7, x8, x9⟩ := (H8.out.alloc (.cells #[.int .i64 c, .int .i64 0, .int .i64 0, .int .i64 0, .bool false, .string { data := #[] }, .int .i64 0, .int .i64 0, .bool false, .string { data := #[] }] 58)).cells
  simp only [] at x0 x1 x2 x3 x4 x5 x6 x7 x8 x9
  go_wp2_with fail
  with_reducible refine (HJ1.out _).mono ?_
  rintro e w5 ⟨rfl, hb5⟩
  clear x0 x1 x2 x3 x4 x5 x6 x7 x8 x9
  have H9 := Lib.hid (SBox.below (SBox.new w4 _ rfl c 0 ⟨0, 0, false, ⟨#[]⟩⟩ ⟨0, 0, false, ⟨#[]⟩⟩) hb5 (SBox.new w4 _ rfl c 0 ⟨0, 0, false, ⟨#[]⟩⟩ ⟨0, 0, false, ⟨#[]⟩⟩).lt)
  replace H8 := Lib.hid (SBox.below (H8.out.alloc _) hb5 (H8.out.alloc _).lt)
  replace HA := Lib.hid (SBox.below (HA.out.alloc _) hb5 (HA.out.alloc _).lt)
  replace HBT := Lib.hid (bthen (HBT.out.alloc HBT.out.size _) hb5 (Nat.le_refl _)); clear hb5
  generalize w4.heap.size = g9 at *
  have l9 := H9.out.lt
  replace l8 := H8.out.lt
  obtain ⟨x0, x1, x2, x3, x4, x5, x6, x7, x8, x9⟩ := (H8.out.alloc (.cells #[.int .i64 c, .int .i64 m, .int .i64 0, .int .i64 0, .bool false, .string { data := #[] }, .int .i64 0, .int .i64 0, .bool false, .string { data := #[] }] 58)).cells
  obtain ⟨y0, y1, y2, y3, y4, y5, y6, y7, y8, y9⟩ := (H9.out.alloc (.cells #[.int .i64 c, .int .i64 m, .int .i64 0, .int .i64 0, .bool false, .string { data := #[] }, .int .i64 0, .int .i64 0, .bool false, .string { data := #[] }] 58)).cells
  simp only [] at x0 x1 x2 x3 x4 x5 x6 x7 x8 x9 y0 y1 y2 y3 y4 y5 y6 y7 y8 y9
  go_wp2_with fail
  with_reducible refine (HJ2.out _).mono ?_
  rintro e w6 ⟨rfl, hb6⟩
  clear x0 x1 x2 x3 x4 x5 x6 x7 x8 x9 y0 y1 y2 y3 y4 y5 y6 y7 y8 y9
  have H10 := Lib.hid (SBox.below (SBox.new w5 _ rfl c m ⟨0, 0, false, ⟨#[]⟩⟩ ⟨0, 0, false, ⟨#[]⟩⟩) hb6 (SBox.new w5 _ rfl c m ⟨0, 0, false, ⟨#[]⟩⟩ ⟨0, 0, false, ⟨#[]⟩⟩).lt)
  replace H8 := Lib.hid (SBox.below (H8.out.alloc _) hb6 (H8.out.alloc _).lt)
  replace H9 := Lib.hid (SBox.below (H9.out.alloc _) hb6 (H9.out.alloc _).lt)
  replace HA := Lib.hid (SBox.below (HA.out.alloc _) hb6 (HA.out.alloc _).lt)
  replace HBT := Lib.hid (bthen (HBT.out.alloc HBT.out.size _) hb6 (Nat.le_refl _)); clear hb6
  generalize w5.heap.size = g10 at *
  go_upto_region 8 with fail
  have H11 := Lib.hid (SBox.new w6 _ rfl c m ⟨0, 0, false, ⟨#[]⟩⟩ ⟨0, 0, false, ⟨#[]⟩⟩)
  replace H8 := Lib.hid (H8.out.alloc (.cells #[.int .i64 c, .int .i64 m, .int .i64 0, .int .i64 0, .bool false, .string { data := #[] }, .int .i64 0, .int .i64 0, .bool false, .string { data := #[] }] 58))
  replace H9 := Lib.hid (H9.out.alloc (.cells #[.int .i64 c, .int .i64 m, .int .i64 0, .int .i64 0, .bool false, .string { data := #[] }, .int .i64 0, .int .i64 0, .bool false, .string { data := #[] }] 58))
  replace H10 := Lib.hid (H10.out.alloc (.cells #[.int .i64 c, .int .i64 m, .int .i64 0, .int .i64 0, .bool false, .string { data := #[] }, .int .i64 0, .int .i64 0, .bool false, .string { data := #[] }] 58))
  replace HA := Lib.hid (HA.out.alloc (.cells #[.int .i64 c, .int .i64 m, .int .i64 0, .int .i64 0, .bool false, .string { data := #[] }, .int .i64 0, .int .i64 0, .bool false, .string { data := #[] }] 58))
  replace HBT := Lib.hid (HBT.out.alloc HBT.out.size (.cells #[.int .i64 c, .int .i64 m, .int .i64 0, .int .i64 0, .bool false, .string { data := #[] }, .int .i64 0, .int .i64 0, .bool false, .string { data := #[] }] 58))
  generalize w6.heap.size = g11 at *
  obtain ⟨w7, hw7⟩ : ∃ w7, w7 = w6.alloc (.cells #[.int .i64 c, .int .i64 m, .int .i64 0, .int .i64 0, .bool false, .string { data := #[] }, .int .i64 0, .int .i64 0, .bool false, .string { data := #[] }] 58) := ⟨_, rfl⟩
  rw [← hw7] at HA HBT H8 H9 H10
  replace H11 : Hid (SBox w7 g11 c m ⟨0, 0, false, ⟨#[]⟩⟩ ⟨0, 0, false, ⟨#[]⟩⟩) := Lib.hid (by rw [hw7]; exact H11.out)
  rw [← hw7]
  clear hw7 l8 l9
  have hSK := (And.intro H8.out.cells (And.intro H9.out.cells (And.intro H10.out.cells (And.intro H11.out.cells HA.out.cells))))
  go_region_held3 (fun w' => (w'.cell? ⟨g8, 0, none⟩ = some (.int .i64 c) ∧ w'.cell? ⟨g8, 1, none⟩ = some (.int .i64 m) ∧ w'.cell? ⟨g8, 2, none⟩ = some (.int .i64 0) ∧ w'.cell? ⟨g8, 3, none⟩ = some (.int .i64 0) ∧ w'.cell? ⟨g8, 4, none⟩ = some (.bool false) ∧ w'.cell? ⟨g8, 5, none⟩ = some (.string { data := #[] }) ∧ w'.cell? ⟨g8, 6, none⟩ = some (.int .i64 0) ∧ w'.cell? ⟨g8, 7, none⟩ = some (.int .i64 0) ∧ w'.cell? ⟨g8, 8, none⟩ = some (.bool false) ∧ w'.cell? ⟨g8, 9, none⟩ = some (.string { data := #[] })) ∧ (w'.cell? ⟨g9, 0, none⟩ = some (.int .i64 c) ∧ w'.cell? ⟨g9, 1, none⟩ = some (.int .i64 0) ∧ w'.cell? ⟨g9, 2, none⟩ = some (.int .i64 0) ∧ w'.cell? ⟨g9, 3, none⟩ = some (.int .i64 0) ∧ w'.cell? ⟨g9, 4, none⟩ = some (.bool false) ∧ w'.cell? ⟨g9, 5, none⟩ = some (.string { data := #[] }) ∧ w'.cell? ⟨g9, 6, none⟩ = some (.int .i64 0) ∧ w'.cell? ⟨g9, 7, none⟩ = some (.int .i64 0) ∧ w'.cell? ⟨g9, 8, none⟩ = some (.bool false) ∧ w'.cell? ⟨g9, 9, none⟩ = some (.string { data := #[] })) ∧ (w'.cell? ⟨g10, 0, none⟩ = some (.int .i64 c) ∧ w'.cell? ⟨g10, 1, none⟩ = some (.int .i64 m) ∧ w'.cell? ⟨g10, 2, none⟩ = some (.int .i64 0) ∧ w'.cell? ⟨g10, 3, none⟩ = some (.int .i64 0) ∧ w'.cell? ⟨g10, 4, none⟩ = some (.bool false) ∧ w'.cell? ⟨g10, 5, none⟩ = some (.string { data := #[] }) ∧ w'.cell? ⟨g10, 6, none⟩ = some (.int .i64 0) ∧ w'.cell? ⟨g10, 7, none⟩ = some (.int .i64 0) ∧ w'.cell? ⟨g10, 8, none⟩ = some (.bool false) ∧ w'.cell? ⟨g10, 9, none⟩ = some (.string { data := #[] })) ∧ (w'.cell? ⟨g11, 0, none⟩ = some (.int .i64 c) ∧ w'.cell? ⟨g11, 1, none⟩ = some (.int .i64 m) ∧ w'.cell? ⟨g11, 2, none⟩ = some (.int .i64 0) ∧ w'.cell? ⟨g11, 3, none⟩ = some (.int .i64 0) ∧ w'.cell? ⟨g11, 4, none⟩ = some (.bool false) ∧ w'.cell? ⟨g11, 5, none⟩ = some (.string { data := #[] }) ∧ w'.cell? ⟨g11, 6, none⟩ = some (.int .i64 0) ∧ w'.cell? ⟨g11, 7, none⟩ = some (.int .i64 0) ∧ w'.cell? ⟨g11, 8, none⟩ = some (.bool false) ∧ w'.cell? ⟨g11, 9, none⟩ = some (.string { data := #[] })) ∧ (w'.cell? ⟨w.heap.size, 0, none⟩ = some (.int .i64 ac) ∧ w'.cell? ⟨w.heap.size, 1, none⟩ = some (.int .i64 an) ∧ w'.cell? ⟨w.heap.size, 2, none⟩ = some (.int .i64 ka) ∧ w'.cell? ⟨w.heap.size, 3, none⟩ = some (.int .i64 ia) ∧ w'.cell? ⟨w.heap.size, 4, none⟩ = some (.bool ba) ∧ w'.cell? ⟨w.heap.size, 5, none⟩ = some (.string sa) ∧ w'.cell? ⟨w.heap.size, 6, none⟩ = some (.int .i64 kx) ∧ w'.cell? ⟨w.heap.size, 7, none⟩ = some (.int .i64 ix) ∧ w'.cell? ⟨w.heap.size, 8, none⟩ = some (.bool bx) ∧ w'.cell? ⟨w.heap.size, 9, none⟩ = some (.string sx)))
    (first | (with_reducible exact hSK) | exact hSK)
    ((first
      | (go_at_call 56; (with_reducible refine (boathouseNames.num_any _ _).mono ?_); rintro e w' ⟨rfl, rfl⟩)
      | (go_at_call 75; refine (HJ3.out _).mono ?_; rintro e wA ⟨rfl, hbwA⟩; replace HA := Lib.hid (SBox.below HA.out.drew hbwA HA.out.drew.lt); replace H8 := Lib.hid (SBox.below H8.out.drew hbwA H8.out.drew.lt); replace H9 := Lib.hid (SBox.below H9.out.drew hbwA H9.out.drew.lt); replace H10 := Lib.hid (SBox.below H10.out.drew hbwA H10.out.drew.lt); replace H11 := Lib.hid (SBox.below H11.out.drew hbwA H11.out.drew.lt); replace HBT := Lib.hid (bthen HBT.out.drew hbwA (Nat.le_refl _)); clear hSK hbwA; have hSK := (And.intro H8.out.cells (And.intro H9.out.cells (And.intro H10.out.cells (And.intro H11.out.cells HA.out.cells)))))))
  all_goals
    go_wp2
    go_ret
    exact ⟨rfl, HBT.out⟩
end Go.Proofs.Ytkkpcdpoldjmkaa.Stats
