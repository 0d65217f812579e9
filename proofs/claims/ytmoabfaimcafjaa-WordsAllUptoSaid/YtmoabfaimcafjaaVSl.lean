/-
  SLICES OF VALUES in memory; the walk of boathouselaw0.SameValues.
-/
import Derived.Test.YtmoabfaimcafjaaVals
namespace Go.Proofs.Ytmoabfaimcafjaa.Vals
open Go.RowKit ValMath

/-- A slice that reads as these values. -/
def VSl (w : World) (A : Option Addr) (n : Nat) (vs : List Val) : Prop :=
  vs.length = n ∧ (0 < n → ∃ b off, A = some ⟨b, off, none⟩ ∧ b < w.heap.size ∧ ∀ i (h : i < vs.length),
    w.cell? ⟨b, off + i * 4, none⟩ = some (.int .i64 vs[i].k) ∧ w.cell? ⟨b, off + i * 4 + 1, none⟩ = some (.int .i64 vs[i].i) ∧
    w.cell? ⟨b, off + i * 4 + 2, none⟩ = some (.bool vs[i].b) ∧ w.cell? ⟨b, off + i * 4 + 3, none⟩ = some (.string vs[i].s))

theorem VSl.none_ (w : World) : VSl w none 0 [] := ⟨rfl, fun h => absurd h (by omega)⟩
theorem VSl.keep {w w' : World} {A : Option Addr} {n : Nat} {vs : List Val} (h : VSl w A n vs) {B : Nat} (hb : Below B w w') (hB : ∀ b off, A = some ⟨b, off, none⟩ → b < B) : VSl w' A n vs := by
  refine ⟨h.1, fun hn => ?_⟩
  obtain ⟨b, off, rfl, hlt, hc⟩ := h.2 hn
  have hbB := hB b off rfl
  refine ⟨b, off, rfl, Nat.lt_of_lt_of_le hlt hb.size, fun i hi => ?_⟩
  rw [hb.cell (p := ⟨b, off + i * 4, none⟩) hbB, hb.cell (p := ⟨b, off + i * 4 + 1, none⟩) hbB, hb.cell (p := ⟨b, off + i * 4 + 2, none⟩) hbB, hb.cell (p := ⟨b, off + i * 4 + 3, none⟩) hbB]
  exact hc i hi
theorem VSl.below {w w' : World} {A : Option Addr} {n : Nat} {vs : List Val} (h : VSl w A n vs) (hb : Below w.heap.size w w') : VSl w' A n vs := by
  refine ⟨h.1, fun hn => ?_⟩
  obtain ⟨b, off, rfl, hlt, hc⟩ := h.2 hn
  exact (VSl.keep (A := some ⟨b, off, none⟩) h hb (fun b' off' e => by injection e with e; injection e with e1; omega)).2 hn
theorem VSl.drewN {w : World} {A : Option Addr} {n : Nat} {vs : List Val} (h : VSl w A n vs) (k : Nat) : VSl (w.drewN k) A n vs := h
theorem VSl.at_ {w : World} {A : Option Addr} {n k : Nat} {vs : List Val} (h : VSl w A n vs) (hk : k < n) :
    ∃ b off, ∃ v : Val, vs[k]? = some v ∧ A = some ⟨b, off, none⟩ ∧ b < w.heap.size ∧ w.cell? ⟨b, off + k * 4, none⟩ = some (.int .i64 v.k) ∧ w.cell? ⟨b, off + k * 4 + 1, none⟩ = some (.int .i64 v.i) ∧
    w.cell? ⟨b, off + k * 4 + 2, none⟩ = some (.bool v.b) ∧ w.cell? ⟨b, off + k * 4 + 3, none⟩ = some (.string v.s) := by
  obtain ⟨b, off, hA, hlt, hc⟩ := h.2 (by omega)
  have hkl : k < vs.length := by rw [h.1]; exact hk
  exact ⟨b, off, vs[k], List.getElem?_eq_getElem hkl, hA, hlt, hc k hkl⟩

theorem take_more {α : Type} {l : List α} {k : Nat} {v : α} (h : l[k]? = some v) : l.take (k + 1) = l.take k ++ [v] := by
  rw [List.take_add_one, h]; rfl

/-! ### '==' and '!=' on two values -/
theorem eq_fields (a b : Val) : (a.k == b.k && (a.i == b.i && (a.b == b.b && a.s.toList == b.s.toList))) = decide (a = b) := by
  rw [Lib.toList_data, Lib.toList_data]
  by_cases h : a = b
  · subst h; simp
  · rw [decide_eq_false h]
    by_cases h1 : a.k = b.k <;> by_cases h2 : a.i = b.i <;> by_cases h3 : a.b = b.b <;> by_cases h4 : a.s = b.s
    · exact absurd (Val.ext_ h1 h2 h3 h4) h
    · have : ¬ a.s.data.toList = b.s.data.toList := fun e => h4 (toList_inj e)
      simp [h1, h2, h3]; intro e; exact this (by rw [e])
    all_goals simp [h1, h2, h3]

theorem guard_val (op : BinOp) (x y : Operand) (a b : Array Value) (W : World) : (eqGuard op 38 x y (.agg a) (.agg b)).run Try.prog W = .ok () W :=
  run_eqGuard_agg W op 38 x y a b (by kernel_rfl)

theorem equal_val (d : Nat) (a b : Val) (W : World) :
    (Op.equalIn (d + 2) 38 (.agg #[.int .i64 a.k, .int .i64 a.i, .bool a.b, .string a.s]) (.agg #[.int .i64 b.k, .int .i64 b.i, .bool b.b, .string b.s])).run Try.prog W = .ok (decide (a = b)) W := by
  rw [← eq_fields]
  rw [run_equalIn_struct W (d + 1) 38 _ _ (by kernel_rfl) (by kernel_rfl)]
  go_simp
  by_cases h1 : a.k = b.k <;> by_cases h2 : a.i = b.i <;> by_cases h3 : a.b = b.b <;> by_cases h4 : a.s.toList = b.s.toList <;> simp [h1, h2, h3, h4]
theorem eql_val (a b : Val) (W : World) : (binOp .eql 38 (.agg #[.int .i64 a.k, .int .i64 a.i, .bool a.b, .string a.s]) (.agg #[.int .i64 b.k, .int .i64 b.i, .bool b.b, .string b.s])).run Try.prog W = .ok (.bool (decide (a = b))) W := by
  rw [run_eql_struct, equal_val 9998 a b W]; rfl
theorem neq_val (a b : Val) (W : World) : (binOp .neq 38 (.agg #[.int .i64 a.k, .int .i64 a.i, .bool a.b, .string a.s]) (.agg #[.int .i64 b.k, .int .i64 b.i, .bool b.b, .string b.s])).run Try.prog W = .ok (.bool (!decide (a = b))) W := by
  rw [run_neq_struct, equal_val 9998 a b W]; rfl

set_option maxHeartbeats 1000000 in
theorem sameValues_any (A B : Option Addr) (n m c d : Nat) (xs ys : List Val) (w : World) (hx : VSl w A n xs) (hy : VSl w B m ys) (hn : n ≤ maxLen) :
    Calls Try.prog 28 #[.slice A n c, .slice B m d] w fun e w' => e = .returned (.bool (decide (xs = ys))) ∧ ∃ k, w' = w.drewN k := by
  unfold maxLen at hn
  by_cases hnm : n = m
  · subst hnm
    go_enter Try.func28, Try.ntmps28
    go_wp2
    go_loopw [5] (fun i wr => ∃ k : Nat, k ≤ n ∧ i = .int .i64 k ∧ Hid (xs.take k = ys.take k) ∧ ∃ q, wr = w.drewN q) (fun i _ => n - (intOf i).toNat)
    case atStart => exact ⟨0, Nat.zero_le _, rfl, by show xs.take 0 = ys.take 0; simp, 0, rfl⟩
    case round =>
      obtain ⟨k, hk, rfl, hrk, q, rfl⟩ := hrel
      by_cases hlt : k < n
      · obtain ⟨b1, o1, ⟨K1, I1, B1, S1⟩, hv1, rfl, _, c0, c1, c2, c3⟩ := hx.at_ hlt
        obtain ⟨b2, o2, ⟨K2, I2, B2, S2⟩, hv2, rfl, _, d0, d1, d2, d3⟩ := hy.at_ hlt
        simp only [] at c0 c1 c2 c3 d0 d1 d2 d3
        have HX := Lib.hid hx; clear hx
        have HY := Lib.hid hy; clear hy
        have HV1 := Lib.hid hv1; clear hv1
        have HV2 := Lib.hid hv2; clear hv2
        by_cases he : (⟨K1, I1, B1, S1⟩ : Val) = ⟨K2, I2, B2, S2⟩
        · have hq : ∀ W, (binOp .neq 38 (.agg #[.int .i64 K1, .int .i64 I1, .bool B1, .string S1]) (.agg #[.int .i64 K2, .int .i64 I2, .bool B2, .string S2])).run Try.prog W = .ok (.bool false) W := fun W => by
            rw [neq_val ⟨K1, I1, B1, S1⟩ ⟨K2, I2, B2, S2⟩ W, decide_eq_true he]; rfl
          have hg := fun x y W => guard_val .neq x y #[.int .i64 K1, .int .i64 I1, .bool B1, .string S1] #[.int .i64 K2, .int .i64 I2, .bool B2, .string S2] W
          have HE := Lib.hid he; clear he
          go_wp2
          go_quiet (fail)
          go_wp2
          go_roundw
          case rel => exact ⟨k + 1, by omega, by go_num, by show _ = _; rw [take_more HV1.out, take_more HV2.out, hrk.out, HE.out], _, rfl⟩
          case measure => simp [intOf]; omega
        · have hq : ∀ W, (binOp .neq 38 (.agg #[.int .i64 K1, .int .i64 I1, .bool B1, .string S1]) (.agg #[.int .i64 K2, .int .i64 I2, .bool B2, .string S2])).run Try.prog W = .ok (.bool true) W := fun W => by
            rw [neq_val ⟨K1, I1, B1, S1⟩ ⟨K2, I2, B2, S2⟩ W, decide_eq_false he]; rfl
          have hg := fun x y W => guard_val .neq x y #[.int .i64 K1, .int .i64 I1, .bool B1, .string S1] #[.int .i64 K2, .int .i64 I2, .bool B2, .string S2] W
          have hF : decide (xs = ys) = false := decide_eq_false fun e => he (by
            have h1 := HV1.out; rw [e, HV2.out] at h1; injection h1 with h1; exact h1.symm)
          have HF := Lib.hid hF; clear hF he
          go_wp2
          go_quiet (fail)
          go_wp2
          go_ret
          exact ⟨ret_bool HF.out.symm, _, by rw [World.drewN_drewN]⟩
      · have hF : decide (xs = ys) = true := decide_eq_true (by
          have h := hrk.out
          rwa [List.take_of_length_le (by rw [hx.1]; omega), List.take_of_length_le (by rw [hy.1]; omega)] at h)
        have HF := Lib.hid hF; clear hF
        go_wp2
        go_ret
        exact ⟨ret_bool HF.out.symm, _, rfl⟩
  · have hF : decide (xs = ys) = false := decide_eq_false fun e => hnm (by rw [← hx.1, ← hy.1, e])
    have HF := Lib.hid hF; clear hF
    have hne : ((n : Int) != (m : Int)) = true := by simp; omega
    go_enter Try.func28, Try.ntmps28
    go_wp2
    go_ret
    exact ⟨ret_bool HF.out.symm, 0, rfl⟩
end Go.Proofs.Ytmoabfaimcafjaa.Vals
