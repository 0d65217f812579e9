/-
  Lemmas of this claim, text behind text: LendC, LendR. Each states its own conditions.
-/
import Derived.OwnWalk
import Derived.Laws.OwnMore
import Derived.Test.YtgmemdedpklnhaaGreatPart06
import Derived.Test.YtgmemdedpklnhaaGreatPart16
import Derived.Test.YtgmemdedpklnhaaGreatPart18

/-
  THE WALKS of CopyColumns, LendColumns, LendRows: columns and rows, copied into memory of the call's own with marked room behind them.
-/




namespace Go.Proofs.YtgmemdedpklnhaaGreat.Dat
open Go.RowKit ValMath Vals Sl VecMath Mem

section
variable {α : Type} {f : α → List Value} {m : Nat} {w : World} {ops : Array Oper} {rest : List Oper} {o : Oper} {a : Act} {Q : Exit → Act → World → Prop}
theorem run_pushes_g (e tS ty : TypeId) (z : Value) (bytes : Nat) (hinfo : (Tryz.prog.info? e).map (fun i => (i.zero, i.size, i.bytes)) = some (some z, m, bytes)) (hu : Tryz.prog.underlying tS = some (.slice e)) (hz : z.cells.size = m) (hm : 0 < m) (hf : ∀ a, (f a).length = m)
    (B : Nat) (v : Value) (xs ys : List α) (A : Option Addr) (n c : Nat) (hyn : ys.length = n) (hsrc : ∀ ad, A = some ad → ∀ j u, (ys.flatMap f)[j]? = some u → w.cell? (ad.add j) = some u) (hnil : A = none → n = 0 ∧ c = 0) (hone : ∀ u ∈ ys.flatMap f, u.oneCell' = true)
    (hown : OwnG e m f w B v xs) (hl : xs.length + n ≤ maxLen) (hby : (xs.length + n) * bytes ≤ 140737488355328) (hB : B ≤ w.heap.size) :
    ∃ u wA, (Builtin.append_ #[tS, tS] ty #[v, .slice A n c]).run Tryz.prog w = .ok u wA ∧ OwnG e m f wA B u (xs ++ ys) ∧ w.grownBy wA v.ownBlock ∧ (u.ownBlock = v.ownBlock ∨ u.ownBlock = some w.heap.size) ∧ (u = .slice none 0 0 ↔ v = .slice none 0 0 ∧ ys = []) := by
  obtain ⟨i0, hi, hz0, hs, hb⟩ := info_parts hinfo
  cases A with
  | none =>
    obtain ⟨rfl, rfl⟩ := hnil rfl
    have hy : ys = [] := List.eq_nil_of_length_eq_zero hyn
    subst hy
    exact ⟨v, w, run_append_owned_none (P := Tryz.prog) (w := w) B tS ty e i0 m hu hi v xs.length (xs.flatMap f) hown, by rw [List.append_nil]; exact hown, World.grownBy.refl _ _, .inl rfl, by simp⟩
  | some ad =>
    obtain ⟨u, wA, h1, h2, h3, h4, h5⟩ := run_append_own_at (P := Tryz.prog) w B tS ty e i0 _ m bytes hu hi hz0 hs hb hz hm v xs.length (xs.flatMap f) hown ad n c (ys.flatMap f) (by rw [flatG_length hf, hyn]) (hsrc ad rfl) hone hl hby hB
    refine ⟨u, wA, h1, ?_, h3, h5, ?_⟩
    · unfold OwnG; rw [List.flatMap_append, List.length_append, hyn]; exact h2
    · rw [h4]
      constructor
      · rintro ⟨rfl, rfl⟩; exact ⟨rfl, List.eq_nil_of_length_eq_zero hyn⟩
      · rintro ⟨rfl, rfl⟩; exact ⟨rfl, hyn.symm⟩
theorem wpList_pushes_g (e tS : TypeId) (z : Value) (bytes : Nat) (hinfo : (Tryz.prog.info? e).map (fun i => (i.zero, i.size, i.bytes)) = some (some z, m, bytes)) (hu : Tryz.prog.underlying tS = some (.slice e)) (hz : z.cells.size = m) (hm : 0 < m) (hf : ∀ a, (f a).length = m) (hgd : o.guard = none)
    (s x : Operand) (ho : o.op = .call { callee := .builtin .append, args := #[s, x], argTypes := #[tS, tS] })
    (B : Nat) (v : Value) (xs ys : List α) (A : Option Addr) (n c : Nat) (hs : a.eval s = v) (hx : a.eval x = .slice A n c) (hyn : ys.length = n) (hsrc : ∀ ad, A = some ad → ∀ j u, (ys.flatMap f)[j]? = some u → w.cell? (ad.add j) = some u) (hnil : A = none → n = 0 ∧ c = 0) (hone : ∀ u ∈ ys.flatMap f, u.oneCell' = true)
    (hown : OwnG e m f w B v xs) (hl : xs.length + n ≤ maxLen) (hby : (xs.length + n) * bytes ≤ 140737488355328) (hB : B ≤ w.heap.size)
    (h : ∀ u wA, OwnG e m f wA B u (xs ++ ys) → w.grownBy wA v.ownBlock → (u.ownBlock = v.ownBlock ∨ u.ownBlock = some w.heap.size) → (u = .slice none 0 0 ↔ v = .slice none 0 0 ∧ ys = []) → wpList Tryz.prog ops Q rest (a.put o.dst u) wA) : wpList Tryz.prog ops Q (o :: rest) a w := by
  refine wpList_plain hgd fun _ hK => ?_
  obtain ⟨u, wA, hr, h2, h3, h4, h5⟩ := run_pushes_g e tS o.type z bytes hinfo hu hz hm hf B v xs ys A n c hyn hsrc hnil hone hown hl hby hB
  unfold Oper.wp execOp
  simp only [ho, resolve, invoke, builtin, Sem.run_bind, Sem.run_pure, Result.andThen_ok, List.map_toArray, List.map_cons, List.map_nil, hs, hx, hr]
  exact hK _ _ (h u wA h2 h3 h4 h5)
end
theorem CSl.news {w : World} {a : Addr} {n : Nat} {cs : List Colm} (h : CSl w (some a) n cs) : ∀ j u, (cs.flatMap ccells)[j]? = some u → w.cell? (a.add j) = some u := by
  intro j u hj
  have hjl : j < (cs.flatMap ccells).length := by
    rcases Nat.lt_or_ge j (cs.flatMap ccells).length with h | h
    · exact h
    · rw [List.getElem?_eq_none h] at hj; cases hj
  rw [flatG_length (m := 3) (fun _ => rfl)] at hjl
  have hi : j / 3 < cs.length := by omega
  obtain ⟨b, off, hA, _, hc⟩ := h.2 (by rw [← h.1]; omega)
  injection hA with hA; subst hA
  have hr : j % 3 < 3 := Nat.mod_lt _ (by omega)
  have hjj : j / 3 * 3 + j % 3 = j := by omega
  rw [← hjj, flatG_at (m := 3) (fun _ => rfl) cs _ _ hi hr] at hj
  obtain ⟨c0, c1, c2⟩ := hc (j / 3) hi
  rw [add_flat, ← hjj]
  generalize j % 3 = r at hr hj
  match r, hr with
  | 0, _ => simp only [ccells, List.getElem?_cons_zero, Option.some.injEq] at hj; subst hj; rw [← Nat.add_assoc]; exact c0
  | 1, _ => simp only [ccells, List.getElem?_cons_succ, List.getElem?_cons_zero, Option.some.injEq] at hj; subst hj; rw [← Nat.add_assoc]; exact c1
  | 2, _ => simp only [ccells, List.getElem?_cons_succ, List.getElem?_cons_zero, Option.some.injEq] at hj; subst hj; rw [← Nat.add_assoc]; exact c2
theorem ccells_one (cs : List Colm) : ∀ u ∈ cs.flatMap ccells, u.oneCell' = true := by
  intro u hu
  rw [List.mem_flatMap] at hu
  obtain ⟨c, _, hu⟩ := hu
  simp only [ccells, List.mem_cons, List.not_mem_nil, or_false] at hu
  rcases hu with rfl | rfl | rfl <;> rfl
def markC : Colm := ⟨77777, ByteArray.empty, 0⟩
theorem CSl.new2 (w : World) (g : Nat) (hg : w.heap.size = g) : CSl (w.alloc (.cells #[.int .i64 77777, .string { data := #[] }, .int .i64 0, .int .i64 77777, .string { data := #[] }, .int .i64 0] 63)) (some ⟨g, 0, none⟩) 2 [markC, markC] := by
  subst hg
  have h := heap_alloc_new w (.cells #[.int .i64 77777, .string { data := #[] }, .int .i64 0, .int .i64 77777, .string { data := #[] }, .int .i64 0] 63)
  refine ⟨rfl, fun _ => ⟨w.heap.size, 0, rfl, by simp, fun i hi => ?_⟩⟩
  have hi2 : i < 2 := by simpa using hi
  match i, hi2 with
  | 0, _ => refine ⟨?_, ?_, ?_⟩ <;> rw [Lib.cell_of_heap h] <;> rfl
  | 1, _ => refine ⟨?_, ?_, ?_⟩ <;> rw [Lib.cell_of_heap h] <;> rfl
/-- An owned row's first elements are an owned row. -/
theorem own_take {w : World} {B z n m g c : Nat} {e : TypeId} {xs ys : List Value} (h : w.ownsRow B e z (.slice (some ⟨g, 0, none⟩) n c) n xs) (hm : m ≤ n) (hy : ys = xs.take (m * z)) : w.ownsRow B e z (.slice (some ⟨g, 0, none⟩) m c) m ys := by
  have hmz : m * z ≤ n * z := Nat.mul_le_mul_right _ hm
  refine ⟨by rw [hy, List.length_take, h.1]; omega, .inr ?_⟩
  rcases h.2 with ⟨e, _⟩ | ⟨g', c', cur, e, hB, hg, h1, h2, h3, h4⟩
  · cases e
  · injection e with e1 e2 e3
    injection e1 with e1; injection e1 with e1
    subst e1; subst e3
    exact ⟨g, c, cur, rfl, hB, hg, by omega, h2, h3, by rw [hy, ← h4, List.take_take, Nat.min_eq_left hmz]⟩
/-- Columns lent. -/
structure LentC (w : World) (B g n c : Nat) (cs : List Colm) : Prop where
  own : OwnC w B (.slice (some ⟨g, 0, none⟩) (n + 2) c) (cs ++ [markC, markC])
  len : cs.length = n
theorem LentC.cap {w : World} {B g n c : Nat} {cs : List Colm} (h : LentC w B g n c cs) : n + 2 ≤ c ∧ c ≤ maxLen := (own_len h.own).2
theorem LentC.full {w : World} {B g n c : Nat} {cs : List Colm} (h : LentC w B g n c cs) : CSl w (some ⟨g, 0, none⟩) (n + 2) (cs ++ [markC, markC]) := OwnC.sl h.own (by rw [List.length_append, h.len]; rfl)
theorem LentC.head {w : World} {B g n c : Nat} {cs : List Colm} (h : LentC w B g n c cs) : OwnC w B (.slice (some ⟨g, 0, none⟩) n c) cs := by
  have h1 := h.own
  unfold OwnC OwnG at h1 ⊢
  rw [show (cs ++ [markC, markC]).length = n + 2 by simp [h.len]] at h1
  rw [h.len]
  refine own_take h1 (by omega) ?_
  rw [List.flatMap_append, List.take_append_of_le_length (by rw [flatG_length (m := 3) (fun _ => rfl), h.len]; exact Nat.le_refl _), List.take_of_length_le (by rw [flatG_length (m := 3) (fun _ => rfl), h.len]; exact Nat.le_refl _)]
theorem LentC.sl {w : World} {B g n c : Nat} {cs : List Colm} (h : LentC w B g n c cs) : CSl w (some ⟨g, 0, none⟩) n cs := OwnC.sl h.head h.len
theorem LentC.below {w w' : World} {B g n c : Nat} {cs : List Colm} (h : LentC w B g n c cs) (hb : Below w.heap.size w w') : LentC w' B g n c cs := ⟨OwnG.below h.own hb, h.len⟩
theorem LentC.base {w : World} {B g n c : Nat} {cs : List Colm} (h : LentC w B g n c cs) : B ≤ g ∧ g < w.heap.size := own_base_of h.own

theorem own_lit_g {w : World} {B z n : Nat} {e : TypeId} {v : Value} {xs : List Value} (h : w.ownsRow B e z v n xs) {m : Nat} (hm : n = m) (hne : v = .slice none 0 0 → False) : ∃ g k, v = .slice (some ⟨g, 0, none⟩) m k := own_lit h hm hne
set_option maxHeartbeats 1000000 in
theorem copyColumns_any (A : Option Addr) (n c : Nat) (cs : List Colm) (w : World) (hv : CArg w A n c cs) :
    Calls Tryz.prog 53 #[.slice A n c] w fun e w' => ∃ g k, e = .returned (.slice (some ⟨g, 0, none⟩) n k) ∧ OwnC w' w.heap.size (.slice (some ⟨g, 0, none⟩) n k) cs ∧ Below w.heap.size w w' := by
  have hown : OwnC (w.alloc (.cells #[] 63)) w.heap.size (.slice (some ⟨w.heap.size, 0, none⟩) 0 0) [] := made0 w 63 3
  have hs := CSl.below hv.sl (Vals.one_new (w := w) (.cells #[] 63))
  have hlen := hv.sl.1
  have h1 := hv.le
  have h2 := hv.cap
  have HO := Lib.hid hown; clear hown
  have HS := Lib.hid (fun ad (h : A = some ad) => CSl.news (h ▸ hs)); clear hs
  have HL := Lib.hid hlen; clear hlen
  have HN := Lib.hid hv.nil; clear hv
  go_enter Tryz.func53, Tryz.ntmps53
  go_wp2_with (refine wpList_pushes_g (f := ccells) 63 22 _ 32 info_col Tryz.underlying22 rfl (Nat.succ_pos _) (fun _ => rfl) rfl _ _ rfl w.heap.size (.slice (some ⟨w.heap.size, 0, none⟩) 0 0) [] cs A n c rfl rfl HL.out HS.out HN.out (ccells_one cs) HO.out (by simp; unfold maxLen; omega) (by simp; omega) (by simp) ?_; intro u wA hA hgA hatA hnA)
  have hA' : OwnC wA w.heap.size u cs := hA
  obtain ⟨g, k, rfl⟩ := own_lit_g hA' (m := n) HL.out (fun e => by cases (hnA.1 e).1)
  go_ret
  refine ⟨g, k, rfl, hA', ?_⟩
  exact (Vals.one_new _).grown hgA (by simp) (fun j hj => by simp only [Value.ownBlock, Option.some.injEq] at hj; omega)
set_option maxHeartbeats 1000000 in
theorem lendColumns_any (A : Option Addr) (n c : Nat) (cs : List Colm) (w : World) (hv : CArg w A n c cs) :
    Calls Tryz.prog 23 #[.slice A n c] w fun e w' => ∃ g k, e = .returned (.slice (some ⟨g, 0, none⟩) n k) ∧ LentC w' w.heap.size g n k cs ∧ Below w.heap.size w w' := by
  have HC := Lib.hid (copyColumns_any A n c cs w hv)
  have hlen := hv.sl.1
  have h1 := hv.le
  have h2 := hv.cap
  have HL := Lib.hid hlen; clear hlen hv
  go_enter Tryz.func23, Tryz.ntmps23
  go_wp2_with (first
    | (go_at_call 53; with_reducible refine HC.out.mono ?_; rintro e w1 ⟨g1, k1, rfl, hO1, hb1⟩; have HO1 := Lib.hid hO1; clear hO1; have HNW := Lib.hid (fun ad (h : (some ⟨w1.heap.size, 0, none⟩ : Option Addr) = some ad) => CSl.news (h ▸ CSl.new2 w1 _ rfl)))
    | (refine wpList_pushes_g (f := ccells) 63 22 _ 32 info_col Tryz.underlying22 rfl (Nat.succ_pos _) (fun _ => rfl) rfl _ _ rfl w.heap.size (.slice (some ⟨g1, 0, none⟩) n k1) cs [markC, markC] (some ⟨w1.heap.size, 0, none⟩) 2 2 rfl rfl rfl HNW.out (fun h => by cases h) (ccells_one _) (OwnG.alloc HO1.out _) (by rw [HL.out]; unfold maxLen; omega) (by rw [HL.out]; omega) (by have := hb1.size; simp; omega) ?_; intro u wA hA hgA hatA hnA; obtain ⟨g, k, rfl⟩ := own_lit_g hA (m := n + 2) (by simp [HL.out]) (fun e => by cases (hnA.1 e).2); have hcap := (own_len hA).2; have HA := Lib.hid hA; clear hA hatA hnA))
  go_ret
  refine ⟨g, k, rfl, ⟨HA.out, HL.out⟩, ?_⟩
  exact (hb1.alloc hb1.size _).grown hgA (by have := hb1.size; simp; omega) (fun j hj => by simp only [Value.ownBlock, Option.some.injEq] at hj; have := (own_base_of HO1.out).1; omega)
end Go.Proofs.YtgmemdedpklnhaaGreat.Dat

/-
  THE WALKS of LendRows, boathouselaw11.lent.
-/


namespace Go.Proofs.YtgmemdedpklnhaaGreat.Dat
open Go.RowKit ValMath Vals Sl VecMath Mem Vec

/-- Rows lent: each in memory of the call's own, with marked room behind it. -/
structure LentRw (w : World) (B g n c : Nat) (rs' rs : List RowA) : Prop where
  own : OwnR w B (.slice (some ⟨g, 0, none⟩) n c) rs'
  len : rs.length = n
  eq : rs'.map (·.vs) = rs.map (·.vs)
  each : ∀ r ∈ rs', (∃ g', r.A = some ⟨g', 0, none⟩ ∧ LentV w B g' r.n r.c r.vs) ∧ r.n ≤ 140737488351232
theorem LentRw.len' {w : World} {B g n c : Nat} {rs' rs : List RowA} (h : LentRw w B g n c rs' rs) : rs'.length = n := by have := congrArg List.length h.eq; simp at this; rw [this]; exact h.len
theorem LentRw.below {w w' : World} {B g n c : Nat} {rs' rs : List RowA} (h : LentRw w B g n c rs' rs) (hb : Below w.heap.size w w') : LentRw w' B g n c rs' rs :=
  ⟨OwnG.below h.own hb, h.len, h.eq, fun r hr => ⟨by obtain ⟨g', e, hl⟩ := (h.each r hr).1; exact ⟨g', e, hl.below hb⟩, (h.each r hr).2⟩⟩
theorem LentRw.sl {w : World} {B g n c : Nat} {rs' rs : List RowA} (h : LentRw w B g n c rs' rs) : RSl w (some ⟨g, 0, none⟩) n rs' := OwnR.sl h.own h.len'
theorem LentRw.rows {w : World} {B g n c : Nat} {rs' rs : List RowA} (h : LentRw w B g n c rs' rs) : ∀ r ∈ rs', VSl w r.A r.n r.vs := fun r hr => by
  obtain ⟨⟨g', e, hl⟩, _⟩ := h.each r hr
  rw [e]; exact hl.sl
theorem own_lit_pos {w : World} {B z n : Nat} {e : TypeId} {v : Value} {xs : List Value} (h : w.ownsRow B e z v n xs) {m : Nat} (hm : n = m + 1) : ∃ g k, v = .slice (some ⟨g, 0, none⟩) (m + 1) k := by
  rcases h.2 with ⟨_, h0⟩ | ⟨g, k, cur, e, _⟩
  · omega
  · exact ⟨g, k, by rw [e, hm]⟩
theorem row_oneW (A : Option Addr) (n c : Nat) : ∀ u ∈ (#[.slice A n c] : Array Value).toList, u.oneCell' = true := by simp [Value.oneCell']
set_option maxHeartbeats 2000000 in
theorem lendRows_any (A : Option Addr) (n c : Nat) (rs : List RowA) (w : World) (hv : RArg w A n c rs) :
    Calls Tryz.prog 24 #[.slice A n c] w fun e w' => ∃ g k rs', e = .returned (.slice (some ⟨g, 0, none⟩) n k) ∧ LentRw w' w.heap.size g n k rs' rs ∧ Below w.heap.size w w' := by
  have hle := hv.le
  have hcap := hv.cap
  have hlen := hv.sl.1
  have HV := Lib.hid hv; clear hv
  have HLN := Lib.hid hlen; clear hlen
  obtain ⟨i0, hi, hz, hs, hbi⟩ := info_parts info_row
  go_enter Tryz.func24, Tryz.ntmps24
  go_wp2_with (at_make; refine wpList_make_own w rfl _ _ _ rfl w.heap.size 67 i0 _ 1 Tryz.underlying23 hi hz hs .i64 .i64 _ (n + 1) rfl rfl (by first | rfl | omega) (by rw [hbi]; omega) (by unfold maxLen; omega) (Nat.le_refl _) ?_; intro w1 hO1 hg1)
  have hb1 := (Below.refl w.heap.size w).grown hg1 (Nat.le_refl _) (fun j hj => by cases hj)
  have HO1 := Lib.hid hO1; clear hO1
  have HB1 := Lib.hid hb1; clear hb1 hg1
  clear i0 hi hz hs hbi
  go_loopw [3, 4] (fun ov iv wr => ∃ (q g3 c3 : Nat) (rs' : List RowA), q ≤ n ∧ ov = .slice (some ⟨g3, 0, none⟩) q c3 ∧ iv = .int .i64 q ∧ OwnR wr w.heap.size (.slice (some ⟨g3, 0, none⟩) q c3) rs' ∧ rs'.map (·.vs) = (rs.take q).map (·.vs) ∧ (∀ r ∈ rs', (∃ g', r.A = some ⟨g', 0, none⟩ ∧ LentV wr w.heap.size g' r.n r.c r.vs) ∧ r.n ≤ 140737488351232) ∧ Below w.heap.size w wr) (fun _ iv _ => n - (intOf iv).toNat)
  case atStart => exact ⟨0, w.heap.size, n + 1, [], Nat.zero_le _, rfl, rfl, HO1.out, rfl, by simp, HB1.out⟩
  case round =>
    clear HO1 HB1
    obtain ⟨q, g3, c3, rs', hq, rfl, rfl, hO, he, hE, hb⟩ := hrel
    have hrl : rs'.length = q := by have := congrArg List.length he; simp at this; have := HLN.out; omega
    by_cases hlt : q < n
    · obtain ⟨b2, o2, r, hr, hA2, hb2, z0⟩ := RSl.at_ (RSl.below HV.out.sl hb) hlt
      have hVr := (HV.out.rows r (List.mem_of_getElem? hr)).below hb
      have hL := lendValues_any r.A r.n r.c r.vs wr hVr
      have hrn : r.n ≤ 140737488351232 := by have := hVr.le; have := hVr.cap; omega
      have hen : (rs.take (q + 1)).map (·.vs) = (rs.take q).map (·.vs) ++ [r.vs] := by rw [take_more hr, List.map_append]; rfl
      clear hr hVr
      obtain ⟨rA, rn, rc, rvs⟩ := r
      simp only [] at z0 hL hrn hen
      subst hA2
      have HL := Lib.hid hL; clear hL
      have HEN := Lib.hid (And.intro hen he); clear hen he
      have HE := Lib.hid hE; clear hE
      have HO := Lib.hid hO; clear hO
      have hsz0 := hb.size
      have HB := Lib.hid hb; clear hb
      go_wp2_with (first
        | (go_at_call 54; with_reducible refine HL.out.mono ?_; rintro e w2 ⟨g1, k1, rfl, hl1, hb1⟩; have HL1 := Lib.hid hl1; clear hl1; replace HO := Lib.hid (OwnG.below HO.out hb1); replace HB := Lib.hid (bthen HB.out hb1 (Nat.le_refl _)); have hsz := HB.out.size)
        | (at_builtin; refine wpList_push_g (f := rcells) 67 23 _ 1 24 info_row Tryz.underlying23 rfl (Nat.succ_pos _) rfl (.tmp 15) (.tmp 23) rfl w.heap.size (.slice (some ⟨g3, 0, none⟩) q c3) rs' ⟨some ⟨g1, 0, none⟩, rn, k1, rvs⟩ w2.heap.size 1 rfl rfl #[.slice (some ⟨g1, 0, none⟩) rn k1] rfl rfl (row_oneW _ _ _) (heap_alloc_new w2 _) (OwnG.alloc HO.out _) (by unfold maxLen; omega) (by omega) (by simp; omega) ?_; intro u wA hA hgA hatA; obtain ⟨g4, k4, rfl⟩ := own_lit_pos hA (m := q) (by simp [hrl]); have HA := Lib.hid hA; clear hA hatA))
      have hk0 := fun (g' a b : Nat) (vs : List Val) (h : LentV w2 w.heap.size g' a b vs) => LentV.grown (h.below (Vals.one_new (w := w2) (.cells #[.slice (some ⟨g1, 0, none⟩) rn k1] 67))) hgA (by
        have := own_ne (h.below (Vals.one_new (w := w2) (.cells #[.slice (some ⟨g1, 0, none⟩) rn k1] 67))).own (OwnG.alloc HO.out (.cells #[.slice (some ⟨g1, 0, none⟩) rn k1] 67)) (by decide)
        rcases this with h | h
        · cases h
        · exact h)
      have HK := Lib.hid hk0; clear hk0
      have hbA := (Below.alloc HB.out HB.out.size (.cells #[.slice (some ⟨g1, 0, none⟩) rn k1] 67)).grown hgA (by simp; omega) (fun j hj => (World.ownsRow.lt HO.out j hj).1)
      have HBA := Lib.hid hbA; clear hbA hgA
      go_roundw
      case rel =>
        refine ⟨q + 1, g4, k4, rs' ++ [⟨some ⟨g1, 0, none⟩, rn, k1, rvs⟩], by omega, rfl, by go_num, HA.out, ?_, ?_, HBA.out⟩
        · rw [HEN.out.1, ← HEN.out.2, List.map_append]; rfl
        · intro r hr
          rw [List.mem_append, List.mem_singleton] at hr
          rcases hr with hr | rfl
          · obtain ⟨⟨g', e, hl⟩, hn⟩ := HE.out r hr
            exact ⟨⟨g', e, HK.out _ _ _ _ (hl.below hb1)⟩, hn⟩
          · refine ⟨⟨g1, rfl, HK.out _ _ _ _ ⟨own_le HL1.out.own ?_, HL1.out.len⟩⟩, hrn⟩
            exact hsz0
      case measure => simp [intOf]; omega
    · obtain rfl : n = q := by omega
      rw [List.take_of_length_le (by rw [HLN.out]; exact Nat.le_refl _)] at he
      have HO := Lib.hid (LentRw.mk hO HLN.out he hE); clear hO he hE
      go_wp2
      go_ret
      exact ⟨g3, c3, rs', rfl, HO.out, hb⟩
theorem ret_cell_data {fn : Func} {p : Tmp} {w : World} {g : Nat} {rows : Int} {C V : Value} {a : Act} {R : Ending → World → Prop} (hb : DBox w g rows C V) (h : fn.results = #[.cell p 25]) (hp : a.tmps.getD p undef = .pointer (some ⟨g, 0, none⟩)) (hd : a.defers = [])
    (hr : R (.returned (.agg #[.int .i64 rows, C, V])) w) : bodyPost Tryz.prog fn R .ret a w := by
  refine bodyPost_ret (v := .agg #[.int .i64 rows, C, V]) ?_ hd hr
  exact results_cell_row h a.tmps w g 25 _ (0, 0) _ hp hb Tryz.underlying25 rfl (by kernel_rfl)
theorem DBox.put0 {w : World} {g : Nat} {rows : Int} {C V : Value} (h : DBox w g rows C V) (x : Int) : DBox (w.setCell ⟨g, 0, none⟩ (.int .i64 x)) g x C V := Vec.set_heap h
theorem own_set3 {w : World} {B z n g : Nat} {e : TypeId} {v : Value} {xs : List Value} {R0 : Int} {C0 V0 : Value} (hD : DBox w g R0 C0 V0) (h : w.ownsRow B e z v n xs) (hne : e ≠ 25) (R : Int) (C V : Value) : (((w.setCell ⟨g, 0, none⟩ (.int .i64 R)).setCell ⟨g, 1, none⟩ C).setCell ⟨g, 2, none⟩ V).ownsRow B e z v n xs :=
  File.own_drop (File.own_drop (File.own_drop h hD hne) (hD.put0 R) hne) ((hD.put0 R).put1 C) hne
set_option maxRecDepth 20000 in
set_option maxHeartbeats 4000000 in
theorem lent_any (d : Dat) (AC : Option Addr) (nC cC : Nat) (AV : Option Addr) (nV cV : Nat) (rs : List RowA) (w : World) (hC0 : CArg w AC nC cC d.cols) (hV0 : RArg w AV nV cV rs) :
    Calls Tryz.prog 5 #[dagg d.rows AC nC cC AV nV cV] w fun e w' => ∃ gC kC gV kV rs', e = .returned (dagg d.rows (some ⟨gC, 0, none⟩) nC kC (some ⟨gV, 0, none⟩) nV kV) ∧ LentC w' w.heap.size gC nC kC d.cols ∧ LentRw w' w.heap.size gV nV kV rs' rs ∧ Below w.heap.size w w' := by
  have hb := Vals.two_new (w := w) (.cells #[.int .i64 d.rows, .slice AC nC cC, .slice AV nV cV] 25) (.cells #[.int .i64 0, .slice none 0 0, .slice none 0 0] 25)
  obtain ⟨R, hR⟩ : ∃ R, R = d.rows := ⟨_, rfl⟩
  rw [← hR] at hb ⊢
  clear hR
  have hC : ∀ W, Below w.heap.size w W → Calls Tryz.prog 23 #[.slice AC nC cC] W _ := fun W h => lendColumns_any AC nC cC d.cols W ⟨CSl.below hC0.sl h, hC0.le, hC0.cap, hC0.fine, hC0.nil⟩
  have hV : ∀ W, Below w.heap.size w W → Calls Tryz.prog 24 #[.slice AV nV cV] W _ := fun W h => lendRows_any AV nV cV rs W ⟨RSl.below hV0.sl h, hV0.le, hV0.cap, fun r hr => (hV0.rows r hr).below h, hV0.nil⟩
  have hx : DBox ((w.alloc (.cells #[.int .i64 R, .slice AC nC cC, .slice AV nV cV] 25)).alloc (.cells #[.int .i64 0, .slice none 0 0, .slice none 0 0] 25)) w.heap.size R (.slice AC nC cC) (.slice AV nV cV) := (DBox.new w _ _ _).alloc _
  have hy : DBox ((w.alloc (.cells #[.int .i64 R, .slice AC nC cC, .slice AV nV cV] 25)).alloc (.cells #[.int .i64 0, .slice none 0 0, .slice none 0 0] 25)) (w.heap.size + 1) 0 (.slice none 0 0) (.slice none 0 0) := by
    have := DBox.new (w.alloc (.cells #[.int .i64 R, .slice AC nC cC, .slice AV nV cV] 25)) 0 (.slice none 0 0) (.slice none 0 0)
    simpa using this
  have HC := Lib.hid hC; clear hC hC0
  have HV := Lib.hid hV; clear hV hV0
  go_enter Tryz.func5, Tryz.ntmps5
  go_upto_region 1 with fail
  generalize hW0 : (w.alloc (.cells #[.int .i64 R, .slice AC nC cC, .slice AV nV cV] 25)).alloc (.cells #[.int .i64 0, .slice none 0 0, .slice none 0 0] 25) = W0 at *
  clear hW0
  have HX := Lib.hid hx
  have HY := Lib.hid hy; clear hy
  have HB := Lib.hid hb; clear hb
  have hS : ∀ wT, Below W0.heap.size W0 wT → (wT.cell? ⟨w.heap.size, 0, none⟩ = some (.int .i64 R) ∧ wT.cell? ⟨w.heap.size, 1, none⟩ = some (.slice AC nC cC) ∧ wT.cell? ⟨w.heap.size, 2, none⟩ = some (.slice AV nV cV)) := fun wT h => (HX.out.below h).cells
  have HSS := Lib.hid hS; clear hS
  obtain ⟨x0, x1, x2⟩ := hx.cells
  clear hx
  have hq1 := Below.refl W0.heap.size W0
  have hq2 := Below.refl W0.heap.size W0
  have hqw := HB.out
  have hyd := (HY.out.drew).free
  go_region_held3 (fun w' => w'.cell? ⟨w.heap.size, 0, none⟩ = some (.int .i64 R) ∧ w'.cell? ⟨w.heap.size, 1, none⟩ = some (.slice AC nC cC) ∧ w'.cell? ⟨w.heap.size, 2, none⟩ = some (.slice AV nV cV))
    (first | go_keep | with_reducible exact HSS.out _ hq2 | exact HSS.out _ hq1)
    ((first
      | (go_at_call 23; (with_reducible refine (HC.out _ (Below.drew HB.out)).mono ?_); rintro e wA ⟨gC, kC, rfl, hLC, hbA⟩; have hq1 : Below W0.heap.size W0 wA := bthen (Below.refl _ W0).drew hbA (Nat.le_refl _); have hqw := bthen HB.out hq1 (Nat.le_refl _); have HLC := Lib.hid hLC; clear hLC)
      | (go_at_call 24; (with_reducible refine (HV.out _ hqw).mono ?_); rintro e wB ⟨gV, kV, rs', rfl, hLR, hbB⟩; have hq2 : Below W0.heap.size W0 wB := bthen hq1 hbB (Nat.le_refl _); have HLR := Lib.hid hLR; clear hLR; have hyf := (HY.out.below hq2).free; have hy0 := hyf 0; have hy1 := hyf 1; have hy2 := hyf 2; have hyc := (HY.out.below hq2).cells; obtain ⟨e0, e1, e2⟩ := hyc)))
  have hD0 := HY.out.below hq2
  have hD3 := ((hD0.put0 R).put1 (.slice (some ⟨gC, 0, none⟩) nC kC)).put2 (.slice (some ⟨gV, 0, none⟩) nV kV)
  have hB3 := (((bthen HB.out hq2 (Nat.le_refl _)).setCell (p := ⟨w.heap.size + 1, 0, none⟩) (Nat.le_succ _) (.int .i64 R)).setCell (p := ⟨w.heap.size + 1, 1, none⟩) (Nat.le_succ _) (.slice (some ⟨gC, 0, none⟩) nC kC)).setCell (p := ⟨w.heap.size + 1, 2, none⟩) (Nat.le_succ _) (.slice (some ⟨gV, 0, none⟩) nV kV)
  have hsA : w.heap.size ≤ W0.drew.heap.size := HB.out.size
  have hsB : w.heap.size ≤ wA.heap.size := (bthen HB.out hq1 (Nat.le_refl _)).size
  have hLC : LentC (((wB.setCell ⟨w.heap.size + 1, 0, none⟩ (.int .i64 R)).setCell ⟨w.heap.size + 1, 1, none⟩ (.slice (some ⟨gC, 0, none⟩) nC kC)).setCell ⟨w.heap.size + 1, 2, none⟩ (.slice (some ⟨gV, 0, none⟩) nV kV)) w.heap.size gC nC kC d.cols :=
    ⟨own_set3 hD0 (own_le (HLC.out.below hbB).own hsA) (by decide) R _ _, HLC.out.len⟩
  have hLR : LentRw (((wB.setCell ⟨w.heap.size + 1, 0, none⟩ (.int .i64 R)).setCell ⟨w.heap.size + 1, 1, none⟩ (.slice (some ⟨gC, 0, none⟩) nC kC)).setCell ⟨w.heap.size + 1, 2, none⟩ (.slice (some ⟨gV, 0, none⟩) nV kV)) w.heap.size gV nV kV rs' rs :=
    ⟨own_set3 hD0 (own_le HLR.out.own hsB) (by decide) R _ _, HLR.out.len, HLR.out.eq, fun r hr => ⟨by obtain ⟨g', e, hl⟩ := (HLR.out.each r hr).1; exact ⟨g', e, own_set3 hD0 (own_le hl.own hsB) (by decide) R _ _, hl.len⟩, (HLR.out.each r hr).2⟩⟩
  have HLC3 := Lib.hid hLC; clear hLC HLC
  have HLR3 := Lib.hid hLR; clear hLR HLR
  have HD3 := Lib.hid hD3; clear hD3 hD0
  have HB3 := Lib.hid hB3; clear hB3 e0 e1 e2 hy0 hy1 hy2 hyf hyd
  go_wp2_with fail
  exact ret_cell_data HD3.out rfl rfl rfl ⟨gC, kC, gV, kV, rs', rfl, HLC3.out, HLR3.out, HB3.out⟩
end Go.Proofs.YtgmemdedpklnhaaGreat.Dat
