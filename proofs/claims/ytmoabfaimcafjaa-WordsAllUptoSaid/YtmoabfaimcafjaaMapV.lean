/-
  MAPS WHOSE KEYS ARE VALUES: places (to int), seen (to bool).
-/
import Derived.Test.YtmoabfaimcafjaaPush
import Derived.Test.YtmoabfaimcafjaaFacts
import Derived.Test.YtmoabfaimcafjaaWordMath
import Derived.Maps.OwnSet
import Derived.DeepKeys4
namespace Go.Proofs.Ytmoabfaimcafjaa.MapV
open Go.RowKit ValMath Vals Sl
open Go.Maps (Keyed)

theorem row_val : (38 : TypeId) < Try.prog.types.size := of_decide_eq_true (by kernel_rfl)
theorem cells_val : Try.prog.cellsOf 38 = 4 := by kernel_rfl
theorem key_type : Try.prog.keyType 38 = true := by kernel_rfl
theorem wide_val : (match Try.prog.underlying 38 with | some (.array _ _) | some (.struct _) => true | _ => false) = true := by rw [Try.underlying38]
set_option maxRecDepth 100000 in
theorem law : WideMaps.KeyLaw Try.prog 38 := deep_law_laid Facts.laid_eq (m := 2) (by omega) row_val (by kernel_rfl) wide_val
theorem keyed : Keyed Try.prog 38 := Keyed.of_law law
/-- What a value reads as, as a key. -/
def klit (u : Val) : Lit := .string (keyBytes [.int .i64 u.k, .int .i64 u.i, .bool u.b, .string u.s.data.toList])
theorem wf_i64 {x : Int} (h1 : -9223372036854775808 ≤ x) (h2 : x < 9223372036854775808) : (Lit.int .i64 x).wf = true := by
  simp [Lit.wf, IntKind.min, IntKind.max, IntKind.signed, IntKind.bits]; omega
set_option maxRecDepth 100000 in
theorem key_val {u : Val} (h : Fine u) : keyOf Try.prog 38 (vagg u) = some (klit u) := by
  have hs : u.s.size ≤ maxLen := Nat.le_trans h.s (by decide)
  have w1 := wf_i64 h.k1 h.k2
  have w2 := wf_i64 h.i1 h.i2
  have hf : (vagg u).formed Try.prog 38 = true := by simp [Value.formed, Try.underlying38, cells_val]
  obtain ⟨d, hd⟩ : ∃ d, Try.prog.types.size + 1 = d + 2 := ⟨Try.prog.types.size - 1, by have h : (38 : Nat) < Try.prog.types.size := row_val; omega⟩
  have c1 : Try.prog.cellsOf 3 = 1 := by kernel_rfl
  have c2 : Try.prog.cellsOf 4 = 1 := by kernel_rfl
  have c3 : Try.prog.cellsOf 9 = 1 := by kernel_rfl
  have hl : Try.prog.keyLits (d + 2) 38 [.int .i64 u.k, .int .i64 u.i, .bool u.b, .string u.s] = some [.int .i64 u.k, .int .i64 u.i, .bool u.b, .string u.s.data.toList] := by
    simp [Program.keyLits, Try.underlying38, Try.underlying3, Try.underlying4, Try.underlying9, cells_val, c1, c2, c3, w1, w2, hs]
  unfold keyOf
  rw [Try.underlying38]
  simp only []
  rw [key_type, hf, hd]
  show (Option.map _ (Try.prog.keyLits (d + 2) 38 [.int .i64 u.k, .int .i64 u.i, .bool u.b, .string u.s])) = _
  rw [hl]; rfl
theorem klit_inj {u v : Val} (hu : Fine u) (hv : Fine v) (e : klit u = klit v) : u = v := by
  have h := keyed.inj (key_val hu) (e ▸ key_val hv)
  have h' : (#[Value.int .i64 u.k, .int .i64 u.i, .bool u.b, .string u.s] : Array Value) = #[.int .i64 v.k, .int .i64 v.i, .bool v.b, .string v.s] := by injection h
  simp only [Array.mk.injEq, List.cons.injEq, Value.int.injEq, Value.bool.injEq, Value.string.injEq, and_true, true_and] at h'
  exact Val.ext_ h'.1 h'.2.1 h'.2.2.1 h'.2.2.2
theorem klit_key (u : Val) : WideAt.IsKeyLit (klit u) := trivial

/-- Block b maps each word to its place. -/
def Places (w : World) (b n : Nat) (ws : List Val) : Prop :=
  ∃ D : DataW Unit, w.ownsMap Try.prog 38 (plainElem Try.prog 3) b n D ∧ (∀ u, Fine u → Maps.has D (klit u) = decide (u ∈ ws)) ∧ ∀ u, Fine u → u ∈ ws → ∀ z, D.atKey (klit u) z = .lit (.int .i64 (place ws u : Nat))
/-- Block b tells which values have been seen. -/
def Seen (w : World) (b n : Nat) (ws : List Val) : Prop :=
  ∃ D : DataW Unit, w.ownsMap Try.prog 38 (plainElem Try.prog 4) b n D ∧ Maps.IsMap D ∧ (∀ u, Fine u → ∀ z, D.atKey (klit u) z = if u ∈ ws then .lit (.bool true) else z)

theorem Places.made (w : World) : Places (w.alloc (.map #[] 0)) w.heap.size 0 [] := ⟨.map [], World.ownsMap_made w _ _ _, fun u _ => by simp [Maps.has_eq], fun u _ h => by simp at h⟩
theorem Seen.made (w : World) : Seen (w.alloc (.map #[] 0)) w.heap.size 0 [] := ⟨.map [], World.ownsMap_made w _ _ _, Maps.isMap_empty, fun u _ z => by simp [WideAt.atKey_none]⟩
theorem Places.kept {w w' : World} {b n : Nat} {ws : List Val} {row : Option Nat} (h : Places w b n ws) (hg : w.grownBy w' row) (hne : some b ≠ row) : Places w' b n ws := by obtain ⟨D, h1, h2⟩ := h; exact ⟨D, h1.kept hg hne, h2⟩
theorem Seen.kept {w w' : World} {b n : Nat} {ws : List Val} {row : Option Nat} (h : Seen w b n ws) (hg : w.grownBy w' row) (hne : some b ≠ row) : Seen w' b n ws := by obtain ⟨D, h1, h2⟩ := h; exact ⟨D, h1.kept hg hne, h2⟩
theorem Places.alloc {w : World} {b n : Nat} {ws : List Val} (h : Places w b n ws) (o : Obj) : Places (w.alloc o) b n ws := by obtain ⟨D, h1, h2⟩ := h; exact ⟨D, h1.alloc o, h2⟩
theorem Seen.alloc {w : World} {b n : Nat} {ws : List Val} (h : Seen w b n ws) (o : Obj) : Seen (w.alloc o) b n ws := by obtain ⟨D, h1, h2⟩ := h; exact ⟨D, h1.alloc o, h2⟩
theorem Places.drew {w : World} {b n : Nat} {ws : List Val} (h : Places w b n ws) : Places w.drew b n ws := h
theorem Seen.drew {w : World} {b n : Nat} {ws : List Val} (h : Seen w b n ws) : Seen w.drew b n ws := h
theorem Places.lt {w : World} {b n : Nat} {ws : List Val} (h : Places w b n ws) : b < w.heap.size := by obtain ⟨D, h1, _⟩ := h; exact h1.lt
theorem Seen.lt {w : World} {b n : Nat} {ws : List Val} (h : Seen w b n ws) : b < w.heap.size := by obtain ⟨D, h1, _⟩ := h; exact h1.lt
theorem grown_of_below {w w' : World} (h : Below w.heap.size w w') : w.grownBy w' none := ⟨h.os, h.tape, h.output, h.size, fun i hi _ => h.block i hi⟩
theorem Places.below {w w' : World} {b n : Nat} {ws : List Val} (h : Places w b n ws) (hb : Below w.heap.size w w') : Places w' b n ws := h.kept (grown_of_below hb) (by simp)
theorem Seen.below {w w' : World} {b n : Nat} {ws : List Val} (h : Seen w b n ws) (hb : Below w.heap.size w w') : Seen w' b n ws := h.kept (grown_of_below hb) (by simp)
/-- A map's block is no row's. -/
theorem map_no_row {H : Type} {w : World} {b n B m z : Nat} {e k : TypeId} {R : Value → Option (DataW H × List MemPlace)} {D : DataW H} {v : Value} {xs : List Value} (h : w.ownsMap Try.prog k R b n D) (ho : w.ownsRow B e z v m xs) : some b ≠ v.ownBlock := by
  obtain ⟨es, clock, hb, _⟩ := h
  rcases ho.2 with ⟨rfl, _⟩ | ⟨g, c, cur, rfl, _, hg, _⟩
  · simp [Value.ownBlock]
  · intro he
    have : b = g := by simpa [Value.ownBlock] using he
    subst this
    rw [hb] at hg; cases hg
theorem Places.no_row {w : World} {b n B m z : Nat} {e : TypeId} {ws : List Val} {v : Value} {xs : List Value} (h : Places w b n ws) (ho : w.ownsRow B e z v m xs) : some b ≠ v.ownBlock := by obtain ⟨D, h1, _⟩ := h; exact map_no_row h1 ho
theorem Seen.no_row {w : World} {b n B m z : Nat} {e : TypeId} {ws : List Val} {v : Value} {xs : List Value} (h : Seen w b n ws) (ho : w.ownsRow B e z v m xs) : some b ≠ v.ownBlock := by obtain ⟨D, h1, _⟩ := h; exact map_no_row h1 ho

theorem place_snoc_mem {ws : List Val} {u v : Val} (h : u ∈ ws) : place (ws ++ [v]) u = place ws u := by
  unfold place; rw [List.findIdx_append, if_pos]; exact place_lt.2 h
theorem place_snoc_self {ws : List Val} {v : Val} (h : v ∉ ws) : place (ws ++ [v]) v = ws.length := by
  have hn : ¬ place ws v < ws.length := fun h2 => h (place_lt.1 h2)
  unfold place at hn ⊢; rw [List.findIdx_append, if_neg hn]; simp

section
variable {w : World} {ops : Array Oper} {rest : List Oper} {o : Oper} {a : Act} {Q : Exit → Act → World → Prop}
set_option maxRecDepth 100000 in
theorem zero_int (w : World) : (zeroValue 3).run Try.prog w = .ok (.int .i64 0) w := by kernel_rfl
theorem zero_bool (w : World) : (zeroValue 4).run Try.prog w = .ok (.bool false) w := by kernel_rfl
/-- 'k, is := places[v]'. -/
theorem wpList_places_look (hg : o.guard = none) (m x : Operand) (hop : o.op = Op.lookup 109 m x true) (b n : Nat) (ws : List Val) (u : Val)
    (hm : a.eval m = .map (some b)) (h : Places w b n ws) (hx : a.eval x = vagg u) (hu : Fine u)
    (hK : ∀ c : Int, (u ∈ ws → c = (place ws u : Nat)) → wpList Try.prog ops Q rest (a.put o.dst (.tuple #[.int .i64 c, .bool (decide (u ∈ ws))])) w) : wpList Try.prog ops Q (o :: rest) a w := by
  obtain ⟨D, h1, h2, h3⟩ := h
  refine wpList_lookup_own_ok_int w hg m x _ hop 38 3 .i64 keyed Try.underlying109 Try.underlying3 (zero_int w) b n D hm h1 _ _ hx (key_val hu) fun c hat _ => ?_
  rw [h2 u hu]
  refine hK c fun hmem => ?_
  rw [h3 u hu hmem] at hat
  injection hat with hat; injection hat with _ hat; exact hat.symm
/-- 'places[v] = k', v being new. -/
theorem wpList_places_put (hg : o.guard = none) (m x v : Operand) (hop : o.op = Op.mapUpdate 109 m x v) (b n : Nat) (ws : List Val) (u : Val)
    (hm : a.eval m = .map (some b)) (h : Places w b n ws) (hn : n < maxLen) (hx : a.eval x = vagg u) (hu : Fine u) (hnew : u ∉ ws) (k : Nat) (hk : k = ws.length) (hk2 : k < maxLen) (hv : a.eval v = .int .i64 (k : Nat))
    (hK : ∀ w', Places w' b (n + 1) (ws ++ [u]) → w.grownBy w' (some b) → wpList Try.prog ops Q rest (a.put o.dst undef) w') : wpList Try.prog ops Q (o :: rest) a w := by
  subst hk
  obtain ⟨D, h1, h2, h3⟩ := h
  have hM := h1.isMap
  unfold maxLen at hk2
  refine wpList_mapUpdate_own w hg m x v _ hop 38 3 keyed Try.underlying109 _ b n D hm h1 hn _ _ _ hx hv (key_val hu) _ _ (plainElem_int Try.underlying3 (wf_i64 (by omega) (by omega))) fun w' h4 h5 => hK w' ⟨_, h4, fun y hy => ?_, fun y hy hmem z => ?_⟩ h5
  · by_cases e : y = u
    · subst e; rw [Maps.has_put_same hM (klit_key _)]; simp
    · rw [Maps.has_put_other (fun e2 => e (klit_inj hy hu e2)), h2 y hy]; simp [e]
  · by_cases e : y = u
    · subst e; rw [Maps.atKey_put_same hM (klit_key _), place_snoc_self hnew]
    · have hmem' : y ∈ ws := by simpa [e] using hmem
      rw [Maps.atKey_put_other (fun e2 => e (klit_inj hy hu e2)), h3 y hy hmem', place_snoc_mem hmem']
set_option maxRecDepth 100000 in
/-- 'seen[w]'. -/
theorem wpList_seen_look (hg : o.guard = none) (m x : Operand) (hop : o.op = Op.lookup 111 m x false) (b n : Nat) (ws : List Val) (u : Val)
    (hm : a.eval m = .map (some b)) (h : Seen w b n ws) (hx : a.eval x = vagg u) (hu : Fine u)
    (hK : wpList Try.prog ops Q rest (a.put o.dst (.bool (decide (u ∈ ws)))) w) : wpList Try.prog ops Q (o :: rest) a w := by
  obtain ⟨D, h1, _, h3⟩ := h
  refine wpList_plain hg fun K' hK' => ?_
  obtain ⟨v, ps, hrun, hv⟩ := h1.lookup keyed Try.underlying111 (zero_bool w) (plainElem_bool Try.underlying4 false) (key_val hu)
  have hvb : v = .bool (decide (u ∈ ws)) := by
    rw [h3 u hu] at hv
    unfold plainElem at hv
    rw [Try.underlying4] at hv
    cases v <;> simp at hv
    rename_i x
    by_cases hm : u ∈ ws
    · rw [if_pos hm] at hv; simp at hv; rw [hv.1]; simp [hm]
    · rw [if_neg hm] at hv; simp at hv; rw [hv.1]; simp [hm]
  subst hvb
  unfold Oper.wp
  simp [execOp, hop, hm, hx, hrun, Result.andThen]
  exact hK' _ _ hK
/-- 'seen[w] = true'. -/
theorem wpList_seen_put (hg : o.guard = none) (m x v : Operand) (hop : o.op = Op.mapUpdate 111 m x v) (b n : Nat) (ws : List Val) (u : Val)
    (hm : a.eval m = .map (some b)) (h : Seen w b n ws) (hn : n < maxLen) (hx : a.eval x = vagg u) (hu : Fine u) (hv : a.eval v = .bool true)
    (hK : ∀ w', Seen w' b (n + 1) (ws ++ [u]) → w.grownBy w' (some b) → wpList Try.prog ops Q rest (a.put o.dst undef) w') : wpList Try.prog ops Q (o :: rest) a w := by
  obtain ⟨D, h1, hM, h3⟩ := h
  refine wpList_mapUpdate_own w hg m x v _ hop 38 4 keyed Try.underlying111 _ b n D hm h1 hn _ _ _ hx hv (key_val hu) _ _ (plainElem_bool Try.underlying4 true) fun w' h4 h5 => hK w' ⟨_, h4, hM.put _ _, fun y hy z => ?_⟩ h5
  by_cases e : y = u
  · subst e; rw [Maps.atKey_put_same hM (klit_key _)]; simp
  · rw [Maps.atKey_put_other (fun e2 => e (klit_inj hy hu e2)), h3 y hy]; simp [e]
end
end Go.Proofs.Ytmoabfaimcafjaa.MapV
