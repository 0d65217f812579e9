/-
  Lemmas of this claim, text behind text: Take, VecWays, VecPut. Each states its own conditions.
-/
import Derived.OrdersHeld
import Derived.Test.YtgmemdedpklnhaaGreatPart04
import Derived.Test.YtgmemdedpklnhaaGreatPart05
import Derived.Test.YtgmemdedpklnhaaGreatPart07
import Derived.Test.YtgmemdedpklnhaaGreatPart08

/-
  LOADS FIRST, IN A REGION WHOSE STORES OVERWRITE WHAT IT LOADS: a load may be taken first if each store of a list 'st' waits for it and the condition S on the world holds behind each operation as long as no store of 'st' has come up.
-/


namespace Go.Proofs.YtgmemdedpklnhaaGreat
open Go.RowKit
section
variable {P : Program} {ops : Array Oper} {Q : Exit → Act → World → Prop} {md : Region.Mode} {S : World → Prop}

/-- No store of 'st' has come up. -/
def calm (st : List Nat) (l : Array Bool) : Bool := st.all fun i => !l.getD i true
/-- Each store of 'st' waits for number i. -/
def waits (md : Region.Mode) (ops : Array Oper) (st : List Nat) (i : Nat) : Bool := st.all fun s => match ops[s]? with | some o => o.after.any (fun e => Region.binds md e && e.on == i) | none => false

theorem calm_set {st : List Nat} {l : Array Bool} {j : Nat} (h : calm st l = true) (hj : j ∉ st) : calm st (l.setIfInBounds j true) = true := by
  unfold calm at h ⊢
  rw [List.all_eq_true] at h ⊢
  intro i hi
  rw [getD_set_ne true (fun e : j = i => hj (by rw [e]; exact hi))]
  exact h i hi

/-- Whatever order is picked; until a store of 'st' has come up, S holds behind each operation. -/
def anyL (P : Program) (md : Region.Mode) (ops : Array Oper) (Q : Exit → Act → World → Prop) (S : World → Prop) (st : List Nat) : Nat → Array Bool → Act → World → Prop
  | 0, listed, a, w => Region.ready md ops listed = [] ∧ Q .normal a w
  | fuel + 1, listed, a, w =>
    (Region.ready md ops listed = [] → Q .normal a w) ∧
    ∀ i ∈ Region.ready md ops listed, wpOp P ops Q i (fun a' w' => (i ∉ st → calm st listed = true → S w') ∧ anyL P md ops Q S st fuel (listed.setIfInBounds i true) a' w') a w

theorem any_of_L {st : List Nat} : ∀ (fuel : Nat) (listed : Array Bool) (a : Act) (w : World), anyL P md ops Q S st fuel listed a w → wpAny P md ops Q fuel listed a w
  | 0, _, _, _, h => h
  | fuel + 1, _, _, _, h => ⟨h.1, fun i hi => wpOp_mono (fun a' w' h' => any_of_L fuel _ a' w' h'.2) (h.2 i hi)⟩

theorem L_first {st : List Nat} {i : Nat} {oi : Oper} {v : Value} (hi : ops[i]? = some oi) (hsel : ∀ (j : Nat) (o : Oper) cs b, ops[j]? = some o → o.op ≠ .select cs b)
    (hQ : ∀ c a w, Q (.panic c) (a.put oi.dst v) w → Q (.panic c) a w) (hm : i ∉ st)
    (hw : ∀ s ∈ st, ∃ os, ops[s]? = some os ∧ ∃ e ∈ os.after, Region.binds md e = true ∧ e.on = i) :
    ∀ (fuel : Nat) (listed : Array Bool) (a : Act) (w : World),
      (∀ j oj, ops[j]? = some oj → j ≠ i → listed.getD j true = false → (∀ e ∈ oj.after, Region.binds md e = true → e.on ≠ i) → oi.apart ops oj = true) →
      i ∈ Region.ready md ops listed → YieldsIf P ops S oi v a → calm st listed = true → S w →
      anyL P md ops Q S st fuel (listed.setIfInBounds i true) (a.put oi.dst v) w → anyL P md ops Q S st (fuel + 1) listed a w := by
  intro fuel
  induction fuel with
  | zero =>
    intro listed a w _ hr hy hc hS H
    refine ⟨fun h => (by rw [h] at hr; cases hr), fun j hj => ?_⟩
    by_cases hji : j = i
    · subst hji; exact hy.wpOp hi hS ⟨fun _ _ => hS, H⟩
    · have h := ready_mono hj hji
      rw [H.1] at h
      cases h
  | succ fuel ih =>
    intro listed a w hfree hr hy hc hS H
    have h0 := (mem_ready.1 hr).1
    refine ⟨fun h => (by rw [h] at hr; cases hr), fun j hj => ?_⟩
    by_cases hji : j = i
    · subst hji; exact hy.wpOp hi hS ⟨fun _ _ => hS, H⟩
    · have h1 := H.2 j (ready_mono hj hji)
      obtain ⟨hjun, oj, hoj, hall⟩ := mem_ready.1 hj
      have hnot : ∀ e ∈ oj.after, Region.binds md e = true → e.on ≠ i := fun e he hb heq => by
        have h1 := hall e he hb
        rw [heq] at h1
        by_cases hz : i < listed.size
        · simp [hz] at h0 h1; rw [h0] at h1; cases h1
        · simp [hz] at h0
      have hjs : j ∉ st := fun hjs => by
        obtain ⟨os, hos, e, he, hb, hei⟩ := hw j hjs
        rw [hoj] at hos
        obtain rfl := Option.some.inj hos
        exact hnot e he hb hei
      have h2 := wpOp_putIf hoj (hfree j oj hoj hji hjun hnot) (fun cs b => hsel i oi cs b hi) (fun cs b => hsel j oj cs b hoj) hQ hy h1
      have hfree' : ∀ k ok, ops[k]? = some ok → k ≠ i → (listed.setIfInBounds j true).getD k true = false →
          (∀ e ∈ ok.after, Region.binds md e = true → e.on ≠ i) → oi.apart ops ok = true := fun k ok hk hki hun hno => by
        refine hfree k ok hk hki ?_ hno
        by_cases hjk : j = k
        · subst hjk; exact hjun
        · rw [getD_set_ne true hjk] at hun; exact hun
      refine wpOp_mono (fun a' w' h3 => ?_) h2
      have hSw : S w' := h3.2.1 hjs (calm_set hc hm)
      refine ⟨fun _ _ => hSw, ih (listed.setIfInBounds j true) a' w' hfree' (ready_mono hr (Ne.symm hji)) h3.1 (calm_set hc hjs) hSw ?_⟩
      rw [Array.setIfInBounds_comm _ _ hji]
      exact h3.2.2

theorem waits_spec {st : List Nat} {i : Nat} (h : waits md ops st i = true) : ∀ s ∈ st, ∃ os, ops[s]? = some os ∧ ∃ e ∈ os.after, Region.binds md e = true ∧ e.on = i := by
  intro s hs
  unfold waits at h
  rw [List.all_eq_true] at h
  have h1 := h s hs
  cases ho : ops[s]? with
  | none => rw [ho] at h1; cases h1
  | some os =>
    rw [ho] at h1
    simp only [Array.any_eq_true', Bool.and_eq_true, beq_iff_eq] at h1
    exact ⟨os, rfl, h1⟩

/-- Take number i first. -/
theorem L_take {st : List Nat} {i : Nat} {oi : Oper} {v : Value} {fuel : Nat} {listed : Array Bool} {a : Act} {w : World} (hi : ops[i]? = some oi)
    (hs : Region.noSelect ops = true) (hf : Region.free md ops listed i = true) (hr : (Region.ready md ops listed).contains i = true) (hw : waits md ops st i = true) (hm : st.contains i = false) (hc : calm st listed = true)
    (hQ : ∀ c a w, Q (.panic c) (a.put oi.dst v) w → Q (.panic c) a w) (hy : YieldsIf P ops S oi v a) (hS : S w)
    (h : anyL P md ops Q S st fuel (listed.setIfInBounds i true) (a.put oi.dst v) w) : anyL P md ops Q S st (fuel + 1) listed a w :=
  L_first hi (Region.noSelect_spec hs) hQ (by simpa using hm) (waits_spec hw) fuel listed a w (Region.free_spec hi hf) (by simpa using hr) hy hc hS h

/-- The one that may come up comes up. -/
theorem L_one {st : List Nat} {i : Nat} {o : Oper} {fuel : Nat} {listed : Array Bool} {a : Act} {w : World} (hr : Region.ready md ops listed = [i]) (ho : ops[i]? = some o)
    (h : ∀ K' : Act → World → Prop, Shut (∀ a w, (i ∉ st → S w) → anyL P md ops Q S st fuel (listed.setIfInBounds i true) a w → K' a w) → if Region.wanted o (yielded ops a.tmps) = true then Oper.wp P o a w K' Q else K' (a.put o.dst undef) w) : anyL P md ops Q S st (fuel + 1) listed a w :=
  ⟨fun h0 => (by rw [hr] at h0; cases h0), fun j hj => by
    rw [hr] at hj
    obtain rfl := List.mem_singleton.1 hj
    exact wpOp_step ho (fun K' hK => h K' (fun a w hS hW => hK a w ⟨fun h1 _ => hS h1, hW⟩))⟩
/-- One of two. -/
theorem L_two {st : List Nat} {i j : Nat} {o p : Oper} {fuel : Nat} {listed : Array Bool} {a : Act} {w : World} (hr : Region.ready md ops listed = [i, j]) (ho : ops[i]? = some o) (hp : ops[j]? = some p)
    (h : ∀ K' : Act → World → Prop, Shut (∀ a w, (i ∉ st → S w) → anyL P md ops Q S st fuel (listed.setIfInBounds i true) a w → K' a w) → if Region.wanted o (yielded ops a.tmps) = true then Oper.wp P o a w K' Q else K' (a.put o.dst undef) w)
    (h2 : ∀ K' : Act → World → Prop, Shut (∀ a w, (j ∉ st → S w) → anyL P md ops Q S st fuel (listed.setIfInBounds j true) a w → K' a w) → if Region.wanted p (yielded ops a.tmps) = true then Oper.wp P p a w K' Q else K' (a.put p.dst undef) w) : anyL P md ops Q S st (fuel + 1) listed a w :=
  ⟨fun h0 => (by rw [hr] at h0; cases h0), fun k hk => by
    rw [hr] at hk
    rcases List.mem_cons.1 hk with rfl | hk
    · exact wpOp_step ho (fun K' hK => h K' (fun a w hS hW => hK a w ⟨fun h1 _ => hS h1, hW⟩))
    · obtain rfl := List.mem_singleton.1 hk
      exact wpOp_step hp (fun K' hK => h2 K' (fun a w hS hW => hK a w ⟨fun h1 _ => hS h1, hW⟩))⟩
theorem L_done {st : List Nat} {fuel : Nat} {listed : Array Bool} {a : Act} {w : World} (hr : Region.ready md ops listed = []) (h : Q .normal a w) : anyL P md ops Q S st fuel listed a w := by
  cases fuel with
  | zero => exact ⟨hr, h⟩
  | succ n => exact ⟨fun _ => h, by rw [hr]; simp⟩
end
end Go.Proofs.YtgmemdedpklnhaaGreat

/-
  THE WALK of the document's own three ways.
-/



namespace Go.Proofs.YtgmemdedpklnhaaGreat.Vec
open Go.RowKit ValMath Vals Sl VecMath Words

theorem Tri.other {w : World} {g g' o : Nat} {a b c : ByteArray} {x : Value} (h : Tri w g a b c) (hne : g ≠ g') : Tri (w.setCell ⟨g', o, none⟩ x) g a b c := by
  unfold Tri at h ⊢
  rw [Below.heap_setCell _ _ _ _ hne]; exact h
theorem own_set {w : World} {B g k z n : Nat} {e : TypeId} {v : Value} {xs : List Value} {x : Value} (h : w.ownsRow B e z v n xs) (hg : g < B) : (w.setCell ⟨g, k, none⟩ x).ownsRow B e z v n xs := by
  have hgr : w.grownBy (w.setCell ⟨g, k, none⟩ x) (some g) := Mem.grown_set w g k x (n := 0) (c := 0)
  exact World.ownsRow.kept h hgr (.inr (fun e => by have := (World.ownsRow.lt h g e).1; omega))

theorem ret_tri {fn : Func} {p : Tmp} {w : World} {g : Nat} {u0 u1 u2 : ByteArray} {a : Act} {R : Ending → World → Prop} (hb : Tri w g u0 u1 u2) (h : fn.results = #[.cell p 112]) (hp : a.tmps.getD p undef = .pointer (some ⟨g, 0, none⟩)) (hd : a.defers = []) (hr : R (.returned (.agg #[.string u0, .string u1, .string u2])) w) : bodyPost Tryz.prog fn R .ret a w :=
  bodyPost_ret (results_cell_row h _ _ g 112 _ (0, 0) _ hp hb Tryz.underlying112 rfl (by kernel_rfl)) hd hr


set_option maxRecDepth 20000 in
set_option maxHeartbeats 8000000 in
theorem ways_any (k : Int) (A : Option Addr) (n c : Nat) (vs : List Val) (w : World) (hv : VSl w A n vs) (hn : n ≤ 4096) (hf : ∀ v ∈ vs, Fine v ∧ v.s.size ≤ 64) :
    Calls Tryz.prog 67 #[.int .i64 k, .slice A n c] w fun e w' => e = .returned (.agg #[.string (str (encPlain k vs)), .string (str (encRuns vs)), .string (str (encWords vs))]) ∧ Below w.heap.size w w' := by
  have hl := hv.1
  have HF := Lib.hid (And.intro hf hl); clear hf hl
  have ht4 := (Tri.new w (str []) (str []) (str [])).alloc (.cells #[.string (str []), .string (str []), .string (str [])] 112)
  have ht5 := Tri.new (w.alloc (.cells #[.string (str []), .string (str []), .string (str [])] 112)) (str []) (str []) (str [])
  rw [World.size_alloc] at ht5
  have hbt := Vals.two_new (w := w) (.cells #[.string (str []), .string (str []), .string (str [])] 112) (.cells #[.string (str []), .string (str []), .string (str [])] 112)
  have hpl0 := plain_len k vs (by rw [HF.out.2]; exact hn) (fun v hv => (HF.out.1 v hv).2)
  have HT45 := Lib.hid (And.intro ht4 (And.intro ht5 hbt)); clear ht4 ht5 hbt
  obtain ⟨X0, hX0⟩ : ∃ X, X = str (encPlain k vs) := ⟨_, rfl⟩
  rw [← hX0]
  have HX0 := Lib.hid hX0; clear hX0
  obtain ⟨X1, hX1⟩ : ∃ X, X = str (encRuns vs) := ⟨_, rfl⟩
  rw [← hX1]
  have HX1 := Lib.hid hX1; clear hX1
  obtain ⟨X2, hX2⟩ : ∃ X, X = str (encWords vs) := ⟨_, rfl⟩
  rw [← hX2]
  have HX2 := Lib.hid hX2; clear hX2
  go_enter Tryz.func67, Tryz.ntmps67
  go_upto_if 21 with fail
  go_cut [] (fun wx => Tri wx (w.heap.size + 1) X0 (str []) (str []) ∧ Tri wx w.heap.size (str []) (str []) (str []) ∧ Below w.heap.size w wx)
  case first =>
    by_cases h2 : k = 2
    · have hep : encPlain k vs = packed 1 (vs.map fun v => flag v.b) := by rw [h2]; exact encPlain_two vs
      have hk2 : (k == 2) = true := by simp [h2]
      clear h2
      have HEP := Lib.hid hep; clear hep
      simp only [hk2]
      clear hk2
      go_wp2
      go_loopw [6, 7] (fun tv iv wr => ∃ q : Nat, q ≤ n ∧ iv = .int .i64 q ∧ OwnI wr (w.heap.size + 2) tv (iat ((vs.take q).map fun v => flag v.b)) ∧ Tri wr (w.heap.size + 1) (str []) (str []) (str []) ∧ Tri wr w.heap.size (str []) (str []) (str []) ∧ Below w.heap.size w wr ∧ w.heap.size + 2 ≤ wr.heap.size) (fun _ iv _ => n - (intOf iv).toNat)
      case atStart => exact ⟨0, Nat.zero_le _, rfl, OwnI.nil _ _, HT45.out.2.1, HT45.out.1, HT45.out.2.2, by simp⟩
      case round =>
        clear HT45
        obtain ⟨q, hq, rfl, hO, hT5, hT4, hb, hz⟩ := hrel
        have hml : (iat ((vs.take q).map fun v => flag v.b)).length = q := by rw [iat_length, List.length_map, List.length_take, HF.out.2]; omega
        obtain ⟨A6, c6, rfl, _, _, _⟩ := hO.form (n := q) hml
        by_cases hlt : q < n
        · obtain ⟨b1, o1, v, hv1, rfl, hb1, c0, c1, c2, c3⟩ := (hv.below hb).at_ hlt
          have hts := truths_snoc hv1
          have hfl : (iat ((vs.take q).map fun v => flag v.b)).length < few := by rw [hml]; unfold few; omega
          generalize iat ((vs.take q).map fun v => flag v.b) = T at *
          have HT := Lib.hid (And.intro hts (And.intro hml hfl)); clear hts hml hfl hv1
          have HO := Lib.hid hO; clear hO
          have HT5 := Lib.hid hT5; clear hT5
          have HT4 := Lib.hid hT4; clear hT4
          have HBT := Lib.hid hb; clear hb
          obtain ⟨kv, iv, bv, sv⟩ := v
          simp only [] at c0 c1 c2 c3 HT
          cases bv
          case false =>
            go_wp2_with (at_builtin; (refine wpList_push_int (t := 3) (fr := (0, 0)) rfl (.tmp 33) (.tmp 35) rfl (w.heap.size + 2) (.slice A6 q c6) T 0 wr.heap.size 1 rfl rfl (heap_alloc_new wr (.cells #[.int .i64 0] 3)) (HO.out.alloc (.cells #[.int .i64 0] 3)) HT.out.2.2 (by simp; omega) ?_; intro u2 wB hI2 hgB hatB); have HI2 := Lib.hid hI2; have HR := Lib.hid (And.intro ((HT5.out.alloc (.cells #[.int .i64 0] 3)).grown hgB (fun e => by have := own_base HO.out _ e.symm; omega)) (And.intro ((HT4.out.alloc (.cells #[.int .i64 0] 3)).grown hgB (fun e => by have := own_base HO.out _ e.symm; omega)) (And.intro ((HBT.out.alloc HBT.out.size (.cells #[.int .i64 0] 3)).grown hgB (Below.size (HBT.out.alloc HBT.out.size (.cells #[.int .i64 0] 3))) (fun j hj => by have := own_base HO.out j hj; omega)) (Nat.le_trans (Nat.le_trans hz (by simp)) hgB.size)))); clear hI2 hgB hatB)
            go_roundw
            case rel => exact ⟨q + 1, by omega, by go_num, by rw [HT.out.1]; exact HI2.out, HR.out⟩
            case measure => simp [intOf]; omega
          case true =>
            go_wp2_with (at_builtin; (refine wpList_push_int (t := 3) (fr := (0, 0)) rfl (.tmp 33) (.tmp 35) rfl (w.heap.size + 2) (.slice A6 q c6) T 1 wr.heap.size 1 rfl rfl (heap_alloc_new wr (.cells #[.int .i64 1] 3)) (HO.out.alloc (.cells #[.int .i64 1] 3)) HT.out.2.2 (by simp; omega) ?_; intro u2 wB hI2 hgB hatB); have HI2 := Lib.hid hI2; have HR := Lib.hid (And.intro ((HT5.out.alloc (.cells #[.int .i64 1] 3)).grown hgB (fun e => by have := own_base HO.out _ e.symm; omega)) (And.intro ((HT4.out.alloc (.cells #[.int .i64 1] 3)).grown hgB (fun e => by have := own_base HO.out _ e.symm; omega)) (And.intro ((HBT.out.alloc HBT.out.size (.cells #[.int .i64 1] 3)).grown hgB (Below.size (HBT.out.alloc HBT.out.size (.cells #[.int .i64 1] 3))) (fun j hj => by have := own_base HO.out j hj; omega)) (Nat.le_trans (Nat.le_trans hz (by simp)) hgB.size)))); clear hI2 hgB hatB)
            go_roundw
            case rel => exact ⟨q + 1, by omega, by go_num, by rw [HT.out.1]; exact HI2.out, HR.out⟩
            case measure => simp [intOf]; omega
        · obtain rfl : q = n := by omega
          have htk : vs.take q = vs := List.take_of_length_le (by rw [HF.out.2]; exact Nat.le_refl _)
          rw [htk] at hO hml
          have hpk : BitMath.packS (iat (vs.map fun v => flag v.b)) 1 = packed 1 (vs.map fun v => flag v.b) := pack_nat (ns := vs.map fun v => flag v.b) (w := 1) (by intro x hx; simp only [List.mem_map] at hx; obtain ⟨v, _, rfl⟩ := hx; exact flag_lt _) (by omega)
          rw [← HEP.out] at hpk
          have hsm : ∀ x ∈ iat (vs.map fun v => flag v.b), x < 9223372036854775808 := fun x hx => by
            simp only [iat, List.mem_map] at hx
            obtain ⟨a, ⟨v, _, rfl⟩, rfl⟩ := hx
            have := flag_lt v.b; omega
          have hP := Bitpack.refPack_any A6 q c6 _ 1 wr (hO.sl hml) (by omega) hsm
          rw [hpk, ← HX0.out] at hP
          generalize BitMath.packE (iat (vs.map fun v => flag v.b)) 1 = E at hP
          have HP := Lib.hid hP; clear hP hpk hsm hO hml
          have HT5 := Lib.hid hT5; clear hT5
          have HT4 := Lib.hid hT4; clear hT4
          go_wp2_with (go_at_call 68; (with_reducible refine HP.out.mono ?_); rintro e w2 ⟨rfl, hb2⟩; have HT52 := Lib.hid (HT5.out.below hb2); have HT42 := Lib.hid (HT4.out.below hb2); have hbb := bthen hb hb2 (Nat.le_refl _); have y0 := HT52.out.cells.1; have yf := HT52.out.free 0; clear hb2)
          go_meet
          exact ⟨HT52.out.put0 X0, HT42.out.other (by omega), hbb.setCell (p := ⟨w.heap.size + 1, 0, none⟩) (Nat.le_succ _) _⟩
    · have hep := encPlain_other vs h2
      have hk2 : (k == 2) = false := by simpa using h2
      clear h2
      have HEP := Lib.hid hep; clear hep
      simp only [hk2]
      clear hk2
      go_wp2
      go_loopw [11] (fun iv wr => ∃ q : Nat, q ≤ n ∧ iv = .int .i64 q ∧ Tri wr (w.heap.size + 1) (str ((vs.take q).flatMap scalar)) (str []) (str []) ∧ Tri wr w.heap.size (str []) (str []) (str []) ∧ Below w.heap.size w wr) (fun iv _ => n - (intOf iv).toNat)
      case atStart => exact ⟨0, Nat.zero_le _, rfl, HT45.out.2.1, HT45.out.1, HT45.out.2.2⟩
      case round =>
        clear HT45
        obtain ⟨q, hq, rfl, hT5, hT4, hb⟩ := hrel
        have hfl := flat_length (vs.take q) (fun v hv => (HF.out.1 v (List.mem_of_mem_take hv)).2)
        have htl : (vs.take q).length ≤ q := List.length_take_le _ _
        by_cases hlt : q < n
        · obtain ⟨b1, o1, v, hv1, rfl, hb1, c0, c1, c2, c3⟩ := (hv.below hb).at_ hlt
          have hts := flat_snoc hv1
          have hvf := HF.out.1 v (List.mem_of_getElem? hv1)
          have hsl := scalar_length v hvf.2
          have hS := fun w => refPlain_any v w hvf.1
          have hadd := add_str (str ((vs.take q).flatMap scalar)) (str (scalar v)) (by rw [str_size, str_size]; omega)
          have hst := str_append ((vs.take q).flatMap scalar) (scalar v)
          rw [← hts] at hst
          generalize str ((vs.take q).flatMap scalar) = L at *
          generalize str (scalar v) = S at *
          have HT := Lib.hid hst; clear hst hts hv1 hvf hsl hfl htl
          have HS := Lib.hid hS; clear hS
          obtain ⟨kv, iv, bv, sv⟩ := v
          simp only [] at c0 c1 c2 c3
          have hT5d := hT5.drew
          have HT5 := Lib.hid hT5d; clear hT5d
          have HT4 := Lib.hid hT4; clear hT4
          obtain ⟨z0, z1, z2⟩ := hT5.cells
          have zf := hT5.free 0
          clear hT5
          have hi1 : (0 : Int) ≤ (q : Int) := by omega
          have hi2 : (q : Int) < (n : Int) := by omega
          go_wp2
          go_region_with (first
            | (go_at_call 70; (with_reducible refine (HS.out _).mono ?_); rintro e wK ⟨rfl, hbK⟩; have hTK := HT5.out.below hbK; have HTK := Lib.hid hTK; clear hTK; have y0 := HTK.out.cells.1; have yf := HTK.out.free 0))
          all_goals
            go_wp2
            go_roundw
            case rel => exact ⟨q + 1, by omega, by go_num, by rw [← HT.out]; exact HTK.out.put0 _, (HT4.out.drew.below hbK).other (by omega), (bthen hb.drew hbK (Nat.le_refl _)).setCell (p := ⟨w.heap.size + 1, 0, none⟩) (Nat.le_succ _) _⟩
            case measure => simp [intOf]; omega
        · obtain rfl : q = n := by omega
          have htk : vs.take q = vs := List.take_of_length_le (by rw [HF.out.2]; exact Nat.le_refl _)
          rw [htk, ← HEP.out, ← HX0.out] at hT5
          have HT5 := Lib.hid hT5; clear hT5
          go_wp2
          go_meet
          exact ⟨HT5.out, hT4, hb⟩
  case rest =>
    obtain ⟨hT5, hT4, hb⟩ := hcut
    clear HT45
    have hHl := HF.out.2
    have hm := cut_length vs
    have hcf : ∀ p ∈ cut vs, Fine p.2 ∧ p.2.s.size ≤ 64 ∧ p.1 ≤ 4096 := fun p hp => by
      obtain ⟨u, hu, e⟩ := cut_mem vs p hp
      have h2 := (cut_counts vs p hp).2
      rw [← e]
      exact ⟨fine_clean (HF.out.1 u hu).1, Nat.le_trans (clean_size u) (HF.out.1 u hu).2, by omega⟩
    rw [hHl] at hm
    have hC := Runs.cutR_any A n c vs wc (hv.below hb) (by omega) (fine_len (fun v h => (HF.out.1 v h).1))
    rw [encRuns_eq] at HX1
    generalize cut vs = a at *
    have HC := Lib.hid hC; clear hC
    have HCF := Lib.hid hcf; clear hcf
    have hK : ∀ w, Calls Tryz.prog 32 #[.int .i64 (a.length : Nat)] w fun e w' => e = .returned (.string (str (cnt a.length))) ∧ Below w.heap.size w w' := fun w => Varint.Varint_any a.length w (by omega)
    have HK := Lib.hid hK; clear hK
    have HT5 := Lib.hid hT5; clear hT5
    have HT4 := Lib.hid hT4; clear hT4
    have HBT := Lib.hid hb; clear hb
    have hszc := HT5.out.lt
    go_wp2_with (first
      | (go_at_call 97; (with_reducible refine HC.out.mono ?_); rintro e w1 ⟨u1, u2, rfl, h1, h2, hb1⟩; obtain ⟨A1, c1, rfl, _⟩ := h1.form (n := a.length) (Runs.counts_length a); obtain ⟨A2, c2, rfl, _⟩ := h2.form' (n := a.length) (Runs.vals_length a); have H1 := Lib.hid h1; have H2 := Lib.hid h2; clear h1 h2; replace HT5 := Lib.hid (HT5.out.below hb1); replace HT4 := Lib.hid (HT4.out.below hb1); replace HBT := Lib.hid (bthen HBT.out hb1 (Nat.le_refl _)); clear hb1)
      | (go_at_call 32; (with_reducible refine (HK.out _).mono ?_); rintro e w2 ⟨rfl, hb2⟩; replace H1 := Lib.hid (H1.out.below hb2); replace H2 := Lib.hid (H2.out.below hb2); replace HT5 := Lib.hid (HT5.out.below hb2); replace HT4 := Lib.hid (HT4.out.below hb2); replace HBT := Lib.hid (bthen HBT.out hb2 (Nat.le_refl _)); clear hb2; have y1 := HT5.out.cells.2.1; have yf := HT5.out.free 1))
    clear y1 yf HC HK
    go_loopw [14] (fun iv wr => ∃ q : Nat, q ≤ a.length ∧ iv = .int .i64 q ∧ Tri wr (w.heap.size + 1) X0 (str (cnt a.length ++ (a.take q).flatMap runBytes)) (str []) ∧ Tri wr w.heap.size (str []) (str []) (str []) ∧ OwnI wr wc.heap.size (.slice A1 a.length c1) (Runs.counts a) ∧ OwnV wr wc.heap.size (.slice A2 a.length c2) (Runs.vals a) ∧ Below w.heap.size w wr) (fun iv _ => a.length - (intOf iv).toNat)
    case atStart => exact ⟨0, Nat.zero_le _, rfl, by rw [List.take_zero, List.flatMap_nil, List.append_nil]; exact HT5.out.put1 _, HT4.out.other (by omega), own_set H1.out hszc, own_set H2.out hszc, HBT.out.setCell (p := ⟨w.heap.size + 1, 1, none⟩) (Nat.le_succ _) _⟩
    case round =>
      clear HT5 HT4 H1 H2 HBT
      obtain ⟨q, hq, rfl, hT5, hT4, hI, hV, hb⟩ := hrel
      by_cases hlt : q < a.length
      · obtain ⟨b1, o1, x, hx1, rfl, hb1, d0⟩ := (hI.sl (Runs.counts_length a)).at_ hlt
        obtain ⟨b2, o2, v, hv1, rfl, hb2, e0, e1, e2, e3⟩ := (hV.sl (Runs.vals_length a)).at_ hlt
        obtain ⟨p, hp⟩ : ∃ p, a[q]? = some p := ⟨_, List.getElem?_eq_getElem hlt⟩
        have hx2 : x = (p.1 : Int) := by unfold Runs.counts at hx1; rw [List.getElem?_map, hp] at hx1; injection hx1 with hx1; exact hx1.symm
        have hv2 : v = p.2 := by unfold Runs.vals at hv1; rw [List.getElem?_map, hp] at hv1; injection hv1 with hv1; exact hv1.symm
        subst hx2; subst hv2
        clear hx1 hv1
        have hpf := HCF.out p (List.mem_of_getElem? hp)
        have hsn := runs_snoc hp
        have hl1 := runs_len (a.take q) (fun u hu => (HCF.out u (List.mem_of_mem_take hu)).2.1)
        have hl2 : (a.take q).length ≤ q := List.length_take_le _ _
        have hl3 := cnt_size a.length
        have hl4 := cnt_size p.1
        have hl5 := scalar_length p.2 hpf.2.1
        have hk1 : ∀ w, Calls Tryz.prog 32 #[.int .i64 (p.1 : Nat)] w fun e w' => e = .returned (.string (str (cnt p.1))) ∧ Below w.heap.size w w' := fun w => Varint.Varint_any p.1 w (by omega)
        have hk2 := fun w => refPlain_any p.2 w hpf.1
        have g2 := str_append (cnt a.length ++ (a.take q).flatMap runBytes) (cnt p.1)
        have hadd1 := add_str (str (cnt a.length ++ (a.take q).flatMap runBytes)) (str (cnt p.1)) (by rw [str_size, str_size, List.length_append]; omega)
        have hadd2 := add_str (str (cnt a.length ++ (a.take q).flatMap runBytes) ++ str (cnt p.1)) (str (scalar p.2)) (by rw [g2, str_size, str_size, List.length_append, List.length_append]; omega)
        have g3 : str (cnt a.length ++ (a.take q).flatMap runBytes) ++ str (cnt p.1) ++ str (scalar p.2) = str (cnt a.length ++ (a.take (q + 1)).flatMap runBytes) := by rw [g2, str_append, hsn]; simp only [List.append_assoc]
        have HE := Lib.hid g3; clear g2 g3 hsn
        generalize str (cnt a.length ++ (a.take q).flatMap runBytes) = O at *
        obtain ⟨pc, pv⟩ := p
        simp only [] at hk1 hk2 hadd1 hadd2 HE d0 e0 e1 e2 e3
        generalize str (cnt pc) = S1 at *
        generalize str (scalar pv) = S2 at *
        obtain ⟨kv, iv, bv, sv⟩ := pv
        simp only [] at e0 e1 e2 e3
        clear hpf hp hl1 hl2 hl3 hl4 hl5
        have HK1 := Lib.hid hk1; clear hk1
        have HK2 := Lib.hid hk2; clear hk2
        have hx4 : At4 wr b2 (o2 + q * 4) ⟨kv, iv, bv, sv⟩ := ⟨e0, e1, e2, e3⟩
        have HX4 := Lib.hid hx4; clear hx4
        obtain ⟨z0, z1, z2⟩ := hT5.cells
        have zf := hT5.free 1
        have HT5 := Lib.hid hT5; clear hT5
        have HT4 := Lib.hid hT4; clear hT4
        have HI := Lib.hid hI; clear hI
        have HV := Lib.hid hV; clear hV
        have hi1 : (0 : Int) ≤ (q : Int) := by omega
        have hi2 : (q : Int) < (a.length : Int) := by omega
        go_wp2
        refine wp_region_any (by kernel_rfl) ?_
        change wpAny _ _ _ _ _ _ _ (World.drew _)
        refine any_of_L (S := fun w' => w'.cell? ⟨w.heap.size + 1, 1, none⟩ = some (.string O) ∧ w'.cell? ⟨b1, o1 + q, none⟩ = some (.int .i64 pc) ∧ (w'.cell? ⟨b2, o2 + q * 4, none⟩ = some (.int .i64 kv) ∧ w'.cell? ⟨b2, o2 + q * 4 + 1, none⟩ = some (.int .i64 iv) ∧ w'.cell? ⟨b2, o2 + q * 4 + 2, none⟩ = some (.bool bv) ∧ w'.cell? ⟨b2, o2 + q * 4 + 3, none⟩ = some (.string sv))) (st := [15]) _ _ _ _ ?_
        have hSK : wr.drew.cell? ⟨w.heap.size + 1, 1, none⟩ = some (.string O) ∧ wr.drew.cell? ⟨b1, o1 + q, none⟩ = some (.int .i64 pc) ∧ (wr.drew.cell? ⟨b2, o2 + q * 4, none⟩ = some (.int .i64 kv) ∧ wr.drew.cell? ⟨b2, o2 + q * 4 + 1, none⟩ = some (.int .i64 iv) ∧ wr.drew.cell? ⟨b2, o2 + q * 4 + 2, none⟩ = some (.bool bv) ∧ wr.drew.cell? ⟨b2, o2 + q * 4 + 3, none⟩ = some (.string sv)) := ⟨z1, d0, e0, e1, e2, e3⟩
        have hd0 : b1 < wr.drew.heap.size := hb1
        clear z0 z1 z2 zf e0 e1 e2 e3
        refine L_take (i := 0) (v := .pointer (some ⟨w.heap.size + 1, 1, none⟩)) rfl (by kernel_rfl) (by kernel_rfl) (by kernel_rfl) (by kernel_rfl) (by kernel_rfl) (by kernel_rfl) (fun _ _ _ h => h) (Or.inl ⟨by rfl, fun w' hS => ?_⟩) hSK ?_
        · obtain ⟨s0, s1, s2, s3, s4, s5⟩ := hS
          go_simp
        simp only [Act.put, List.setIfInBounds_toArray]
        refine L_take (i := 1) (v := .string O) rfl (by kernel_rfl) (by kernel_rfl) (by kernel_rfl) (by kernel_rfl) (by kernel_rfl) (by kernel_rfl) (fun _ _ _ h => h) (Or.inl ⟨by rfl, fun w' hS => ?_⟩) hSK ?_
        · obtain ⟨s0, s1, s2, s3, s4, s5⟩ := hS
          go_simp
        simp only [Act.put]
        refine L_take (i := 2) (v := .slice (some ⟨b1, o1, none⟩) a.length c1) rfl (by kernel_rfl) (by kernel_rfl) (by kernel_rfl) (by kernel_rfl) (by kernel_rfl) (by kernel_rfl) (fun _ _ _ h => h) (Or.inl ⟨by rfl, fun w' hS => ?_⟩) hSK ?_
        · obtain ⟨s0, s1, s2, s3, s4, s5⟩ := hS
          go_simp
        simp only [Act.put]
        refine L_take (i := 3) (v := .int .i64 q) rfl (by kernel_rfl) (by kernel_rfl) (by kernel_rfl) (by kernel_rfl) (by kernel_rfl) (by kernel_rfl) (fun _ _ _ h => h) (Or.inl ⟨by rfl, fun w' hS => ?_⟩) hSK ?_
        · obtain ⟨s0, s1, s2, s3, s4, s5⟩ := hS
          go_simp
        simp only [Act.put]
        refine L_take (i := 4) (v := .pointer (some ⟨b1, o1 + q, none⟩)) rfl (by kernel_rfl) (by kernel_rfl) (by kernel_rfl) (by kernel_rfl) (by kernel_rfl) (by kernel_rfl) (fun _ _ _ h => h) (Or.inl ⟨by rfl, fun w' hS => ?_⟩) hSK ?_
        · obtain ⟨s0, s1, s2, s3, s4, s5⟩ := hS
          go_simp
        simp only [Act.put]
        refine L_take (i := 5) (v := .int .i64 pc) rfl (by kernel_rfl) (by kernel_rfl) (by kernel_rfl) (by kernel_rfl) (by kernel_rfl) (by kernel_rfl) (fun _ _ _ h => h) (Or.inl ⟨by rfl, fun w' hS => ?_⟩) hSK ?_
        · obtain ⟨s0, s1, s2, s3, s4, s5⟩ := hS
          go_simp
        simp only [Act.put]
        refine L_take (i := 8) (v := .slice (some ⟨b2, o2, none⟩) a.length c2) rfl (by kernel_rfl) (by kernel_rfl) (by kernel_rfl) (by kernel_rfl) (by kernel_rfl) (by kernel_rfl) (fun _ _ _ h => h) (Or.inl ⟨by rfl, fun w' hS => ?_⟩) hSK ?_
        · obtain ⟨s0, s1, s2, s3, s4, s5⟩ := hS
          go_simp
        simp only [Act.put]
        refine L_take (i := 9) (v := .int .i64 q) rfl (by kernel_rfl) (by kernel_rfl) (by kernel_rfl) (by kernel_rfl) (by kernel_rfl) (by kernel_rfl) (fun _ _ _ h => h) (Or.inl ⟨by rfl, fun w' hS => ?_⟩) hSK ?_
        · obtain ⟨s0, s1, s2, s3, s4, s5⟩ := hS
          go_simp
        simp only [Act.put]
        refine L_take (i := 10) (v := .pointer (some ⟨b2, o2 + q * 4, none⟩)) rfl (by kernel_rfl) (by kernel_rfl) (by kernel_rfl) (by kernel_rfl) (by kernel_rfl) (by kernel_rfl) (fun _ _ _ h => h) (Or.inl ⟨by rfl, fun w' hS => ?_⟩) hSK ?_
        · obtain ⟨s0, s1, s2, s3, s4, s5⟩ := hS
          go_simp
        simp only [Act.put]
        refine L_take (i := 11) (v := .agg #[.int .i64 kv, .int .i64 iv, .bool bv, .string sv]) rfl (by kernel_rfl) (by kernel_rfl) (by kernel_rfl) (by kernel_rfl) (by kernel_rfl) (by kernel_rfl) (fun _ _ _ h => h) (Or.inl ⟨by rfl, fun w' hS => ?_⟩) hSK ?_
        · obtain ⟨s0, s1, s2, s3, s4, s5⟩ := hS
          go_simp
        simp only [Act.put]
        refine L_one (i := 6) (by kernel_rfl) rfl (fun K hK => ?_)
        go_simp
        go_wp2_with (go_at_call 32; (with_reducible refine (HK1.out _).mono ?_); rintro e wK ⟨rfl, hbK⟩)
        have HTK := Lib.hid (HT5.out.drew.below hbK)
        have HXK := Lib.hid (HX4.out.drew.below hbK hb2)
        have hSK2 : wK.cell? ⟨w.heap.size + 1, 1, none⟩ = some (.string O) ∧ wK.cell? ⟨b1, o1 + q, none⟩ = some (.int .i64 pc) ∧ (wK.cell? ⟨b2, o2 + q * 4, none⟩ = some (.int .i64 kv) ∧ wK.cell? ⟨b2, o2 + q * 4 + 1, none⟩ = some (.int .i64 iv) ∧ wK.cell? ⟨b2, o2 + q * 4 + 2, none⟩ = some (.bool bv) ∧ wK.cell? ⟨b2, o2 + q * 4 + 3, none⟩ = some (.string sv)) := ⟨HTK.out.cells.2.1, (hbK.cell (p := ⟨b1, o1 + q, none⟩) hd0).trans d0, HXK.out⟩
        clear hSK
        have hSK := hSK2
        clear hSK2
        refine hK.out _ _ (fun _ => hSK) ?_
        clear hK K
        refine L_take (i := 7) (v := .string (O ++ S1)) rfl (by kernel_rfl) (by kernel_rfl) (by kernel_rfl) (by kernel_rfl) (by kernel_rfl) (by kernel_rfl) (fun _ _ _ h => h) (Or.inl ⟨by rfl, fun w' hS => ?_⟩) hSK ?_
        · obtain ⟨s0, s1, s2, s3, s4, s5⟩ := hS
          go_simp
        simp only [Act.put]
        refine L_one (i := 12) (by kernel_rfl) rfl (fun K hK => ?_)
        go_simp
        go_wp2_with (go_at_call 70; (with_reducible refine (HK2.out _).mono ?_); rintro e wS ⟨rfl, hbS⟩)
        have HTS := Lib.hid (HTK.out.below hbS)
        have y2 := HTS.out.cells.2.1
        have yf := HTS.out.free 1
        refine hK.out _ _ (fun _ => ⟨y2, (hbS.cell (p := ⟨b1, o1 + q, none⟩) (Nat.lt_of_lt_of_le hd0 hbK.size)).trans hSK.2.1, HXK.out.below hbS (Nat.lt_of_lt_of_le hb2 hbK.size)⟩) ?_
        clear hK K
        have hS3 : wS.cell? ⟨w.heap.size + 1, 1, none⟩ = some (.string O) ∧ wS.cell? ⟨b1, o1 + q, none⟩ = some (.int .i64 pc) ∧ (wS.cell? ⟨b2, o2 + q * 4, none⟩ = some (.int .i64 kv) ∧ wS.cell? ⟨b2, o2 + q * 4 + 1, none⟩ = some (.int .i64 iv) ∧ wS.cell? ⟨b2, o2 + q * 4 + 2, none⟩ = some (.bool bv) ∧ wS.cell? ⟨b2, o2 + q * 4 + 3, none⟩ = some (.string sv)) := ⟨y2, (hbS.cell (p := ⟨b1, o1 + q, none⟩) (Nat.lt_of_lt_of_le hd0 hbK.size)).trans hSK.2.1, HXK.out.below hbS (Nat.lt_of_lt_of_le hb2 hbK.size)⟩
        refine L_one (i := 13) (by kernel_rfl) rfl (fun K hK => ?_)
        go_simp
        refine hK.out _ _ (fun _ => hS3) ?_
        clear hK K
        refine L_one (i := 14) (by kernel_rfl) rfl (fun K hK => ?_)
        go_simp
        refine hK.out _ _ (fun _ => hS3) ?_
        clear hK K
        refine L_one (i := 15) (by kernel_rfl) rfl (fun K hK => ?_)
        go_simp
        refine hK.out _ _ (fun h => absurd (by simp) h) ?_
        clear hK K hS3 hSK y2 yf
        refine L_done (by kernel_rfl) ?_
        have hbb := bthen (bthen hb.drew hbK (Nat.le_refl _)) hbS (Nat.le_refl _)
        have HR := Lib.hid (And.intro (own_set (k := 1) (x := .string (O ++ S1 ++ S2)) ((HI.out.drew.below hbK).below hbS) hszc) (own_set (k := 1) (x := .string (O ++ S1 ++ S2)) ((HV.out.drew.below hbK).below hbS) hszc))
        go_wp2
        go_roundw
        case rel => exact ⟨q + 1, by omega, by go_num, by rw [← HE.out]; exact HTS.out.put1 _, ((HT4.out.drew.below hbK).below hbS).other (by omega), HR.out.1, HR.out.2, hbb.setCell (p := ⟨w.heap.size + 1, 1, none⟩) (Nat.le_succ _) _⟩
        case measure => simp [intOf]; omega
      · obtain rfl : q = a.length := by omega
        rw [List.take_of_length_le (Nat.le_refl _), ← HX1.out] at hT5
        clear hI hV HCF HX1 hm
        have hm := build_ws_length vs
        have ha := build_at_length vs
        have hcf : ∀ u ∈ (build vs).1, Fine u ∧ u.s.size ≤ 64 := fun u hu => by
          obtain ⟨x, hx, e⟩ := (build_ws_mem vs u).1 hu
          rw [← e]
          exact ⟨fine_clean (HF.out.1 x hx).1, Nat.le_trans (clean_size x) (HF.out.1 x hx).2⟩
        have hpk := words_packed vs (by omega)
        have hpl := packed_length (width ((build vs).1.length - 1)) (build vs).2
        have hwl := width_le (m := (build vs).1.length) (by omega)
        rw [hHl] at hm ha
        rw [ha] at hpl
        have hB := buildR_any A n c vs wr (hv.below hb) (by omega) (fine_len (fun v h => (HF.out.1 v h).1))
        have hX2 := HX2.out
        rw [encWords_eq] at hX2
        obtain ⟨s, hs⟩ : ∃ s, s = build vs := ⟨_, rfl⟩
        rw [← hs] at hm ha hcf hpk hpl hwl hB hX2
        obtain ⟨W, P⟩ := s
        simp only [] at hm ha hcf hpk hpl hwl hB hX2
        have hwp := width_pred W.length
        have hPl : (packed (width (W.length - 1)) P).length ≤ 8192 := by
          rw [hpl]
          have h1 : n * width (W.length - 1) ≤ 4096 * 12 := Nat.mul_le_mul hn hwl
          omega
        clear hpl
        generalize packed (width (W.length - 1)) P = Kp at *
        generalize width (W.length - 1) = wd at *
        have hil : (iat P).length = n := by rw [iat_length, ha]
        have hsm : ∀ x ∈ iat P, x < 9223372036854775808 := fun x hx => by
          simp only [iat, List.mem_map] at hx
          obtain ⟨y, hy, rfl⟩ := hx
          have := build_at_lt vs y (by rw [← hs]; exact hy)
          rw [← hs] at this
          simp only [] at this
          omega
        have hkv : ∀ w, Calls Tryz.prog 32 #[.int .i64 (W.length : Nat)] w fun e w' => e = .returned (.string (str (cnt W.length))) ∧ Below w.heap.size w w' := fun w => Varint.Varint_any W.length w (by omega)
        have hwd := fun w => Bitpack.refWidth_any ((W.length : Int) - 1) w (by omega)
        rw [hwp] at hwd
        have hw1 : IntKind.i64.wrap ((W.length : Int) - 1) = (W.length : Int) - 1 := IntWalk.i64_in _ (by omega)
        have hcl := cnt_size W.length
        obtain ⟨wv, rfl⟩ : ∃ wv : World, wv = wr := ⟨_, rfl⟩
        have hszv := hT5.lt
        have HB := Lib.hid hB; clear hB
        have HF2 := Lib.hid (And.intro hcf (And.intro hpk (And.intro hPl (And.intro hil (And.intro hX2 hsm))))); clear hcf hpk hPl hil hX2 hsm hs hwp HX2
        have HKV := Lib.hid hkv; clear hkv
        have HWD := Lib.hid hwd; clear hwd
        have HT5 := Lib.hid hT5; clear hT5
        have HT4 := Lib.hid hT4; clear hT4
        have HBT := Lib.hid hb; clear hb
        go_wp2_with (first
          | (go_at_call 98; (with_reducible refine HB.out.mono ?_); rintro e w3 ⟨u1, u2, rfl, h1, h2, hb1⟩; obtain ⟨A3, c3, rfl, _⟩ := h1.form' (n := W.length) rfl; obtain ⟨A4, c4, rfl, _⟩ := h2.form (n := n) HF2.out.2.2.2.1; have H1 := Lib.hid h1; have H2 := Lib.hid h2; clear h1 h2; replace HT5 := Lib.hid (HT5.out.below hb1); replace HT4 := Lib.hid (HT4.out.below hb1); replace HBT := Lib.hid (bthen HBT.out hb1 (Nat.le_refl _)); clear hb1)
          | (go_at_call 32; (with_reducible refine (HKV.out _).mono ?_); rintro e w4 ⟨rfl, hb2⟩; replace H1 := Lib.hid (H1.out.below hb2); replace H2 := Lib.hid (H2.out.below hb2); replace HT5 := Lib.hid (HT5.out.below hb2); replace HT4 := Lib.hid (HT4.out.below hb2); replace HBT := Lib.hid (bthen HBT.out hb2 (Nat.le_refl _)); clear hb2; have y1 := HT5.out.cells.2.2; have yf := HT5.out.free 2))
        clear y1 yf HB HKV
        go_loopw [17] (fun iv wr => ∃ q : Nat, q ≤ W.length ∧ iv = .int .i64 q ∧ Tri wr (w.heap.size + 1) X0 X1 (str (cnt W.length ++ (W.take q).flatMap scalar)) ∧ Tri wr w.heap.size (str []) (str []) (str []) ∧ OwnV wr wv.heap.size (.slice A3 W.length c3) W ∧ OwnI wr wv.heap.size (.slice A4 n c4) (iat P) ∧ Below w.heap.size w wr) (fun iv _ => W.length - (intOf iv).toNat)
        case atStart => exact ⟨0, Nat.zero_le _, rfl, by rw [List.take_zero, List.flatMap_nil, List.append_nil]; exact HT5.out.put2 _, HT4.out.other (by omega), own_set H1.out hszv, own_set H2.out hszv, HBT.out.setCell (p := ⟨w.heap.size + 1, 2, none⟩) (Nat.le_succ _) _⟩
        case round =>
          clear HT5 HT4 H1 H2 HBT
          obtain ⟨q, hq, rfl, hT5, hT4, hV, hI, hb⟩ := hrel
          have hfl := flat_length (W.take q) (fun v hv => (HF2.out.1 v (List.mem_of_mem_take hv)).2)
          have htl : (W.take q).length ≤ q := List.length_take_le _ _
          by_cases hlt : q < W.length
          · obtain ⟨b2, o2, v, hv1, rfl, hb2, e0, e1, e2, e3⟩ := (hV.sl rfl).at_ hlt
            have hts := flat_snoc hv1
            have hvf := HF2.out.1 v (List.mem_of_getElem? hv1)
            have hsl := scalar_length v hvf.2
            have hS := fun w => refPlain_any v w hvf.1
            have hadd := add_str (str (cnt W.length ++ (W.take q).flatMap scalar)) (str (scalar v)) (by rw [str_size, str_size, List.length_append]; omega)
            have hst := str_append (cnt W.length ++ (W.take q).flatMap scalar) (scalar v)
            rw [List.append_assoc, ← hts] at hst
            generalize str (cnt W.length ++ (W.take q).flatMap scalar) = O at *
            generalize str (scalar v) = S2 at *
            have HE := Lib.hid hst; clear hst hts hv1 hvf hsl hfl htl
            have HK2 := Lib.hid hS; clear hS
            obtain ⟨kv, iv, bv, sv⟩ := v
            simp only [] at e0 e1 e2 e3
            have hx4 : At4 wr b2 (o2 + q * 4) ⟨kv, iv, bv, sv⟩ := ⟨e0, e1, e2, e3⟩
            have HX4 := Lib.hid hx4; clear hx4
            obtain ⟨z0, z1, z2⟩ := hT5.cells
            have HT5 := Lib.hid hT5; clear hT5
            have HT4 := Lib.hid hT4; clear hT4
            have HI := Lib.hid hI; clear hI
            have HV := Lib.hid hV; clear hV
            have hi1 : (0 : Int) ≤ (q : Int) := by omega
            have hi2 : (q : Int) < (W.length : Int) := by omega
            go_wp2
            refine wp_region_any (by kernel_rfl) ?_
            change wpAny _ _ _ _ _ _ _ (World.drew _)
            refine any_of_L (S := fun w' => w'.cell? ⟨w.heap.size + 1, 2, none⟩ = some (.string O) ∧ True ∧ (w'.cell? ⟨b2, o2 + q * 4, none⟩ = some (.int .i64 kv) ∧ w'.cell? ⟨b2, o2 + q * 4 + 1, none⟩ = some (.int .i64 iv) ∧ w'.cell? ⟨b2, o2 + q * 4 + 2, none⟩ = some (.bool bv) ∧ w'.cell? ⟨b2, o2 + q * 4 + 3, none⟩ = some (.string sv))) (st := [9]) _ _ _ _ ?_
            have hSK : wr.drew.cell? ⟨w.heap.size + 1, 2, none⟩ = some (.string O) ∧ True ∧ (wr.drew.cell? ⟨b2, o2 + q * 4, none⟩ = some (.int .i64 kv) ∧ wr.drew.cell? ⟨b2, o2 + q * 4 + 1, none⟩ = some (.int .i64 iv) ∧ wr.drew.cell? ⟨b2, o2 + q * 4 + 2, none⟩ = some (.bool bv) ∧ wr.drew.cell? ⟨b2, o2 + q * 4 + 3, none⟩ = some (.string sv)) := ⟨z2, trivial, e0, e1, e2, e3⟩
            clear z0 z1 z2 e0 e1 e2 e3
            refine L_take (i := 0) (v := .pointer (some ⟨w.heap.size + 1, 2, none⟩)) rfl (by kernel_rfl) (by kernel_rfl) (by kernel_rfl) (by kernel_rfl) (by kernel_rfl) (by kernel_rfl) (fun _ _ _ h => h) (Or.inl ⟨by rfl, fun w' hS => ?_⟩) hSK ?_
            · obtain ⟨s0, s1, s2, s3, s4, s5⟩ := hS
              go_simp
            simp only [Act.put, List.setIfInBounds_toArray]
            refine L_take (i := 1) (v := .string O) rfl (by kernel_rfl) (by kernel_rfl) (by kernel_rfl) (by kernel_rfl) (by kernel_rfl) (by kernel_rfl) (fun _ _ _ h => h) (Or.inl ⟨by rfl, fun w' hS => ?_⟩) hSK ?_
            · obtain ⟨s0, s1, s2, s3, s4, s5⟩ := hS
              go_simp
            simp only [Act.put]
            refine L_take (i := 2) (v := .slice (some ⟨b2, o2, none⟩) W.length c3) rfl (by kernel_rfl) (by kernel_rfl) (by kernel_rfl) (by kernel_rfl) (by kernel_rfl) (by kernel_rfl) (fun _ _ _ h => h) (Or.inl ⟨by rfl, fun w' hS => ?_⟩) hSK ?_
            · obtain ⟨s0, s1, s2, s3, s4, s5⟩ := hS
              go_simp
            simp only [Act.put]
            refine L_take (i := 3) (v := .int .i64 q) rfl (by kernel_rfl) (by kernel_rfl) (by kernel_rfl) (by kernel_rfl) (by kernel_rfl) (by kernel_rfl) (fun _ _ _ h => h) (Or.inl ⟨by rfl, fun w' hS => ?_⟩) hSK ?_
            · obtain ⟨s0, s1, s2, s3, s4, s5⟩ := hS
              go_simp
            simp only [Act.put]
            refine L_take (i := 4) (v := .pointer (some ⟨b2, o2 + q * 4, none⟩)) rfl (by kernel_rfl) (by kernel_rfl) (by kernel_rfl) (by kernel_rfl) (by kernel_rfl) (by kernel_rfl) (fun _ _ _ h => h) (Or.inl ⟨by rfl, fun w' hS => ?_⟩) hSK ?_
            · obtain ⟨s0, s1, s2, s3, s4, s5⟩ := hS
              go_simp
            simp only [Act.put]
            refine L_take (i := 5) (v := .agg #[.int .i64 kv, .int .i64 iv, .bool bv, .string sv]) rfl (by kernel_rfl) (by kernel_rfl) (by kernel_rfl) (by kernel_rfl) (by kernel_rfl) (by kernel_rfl) (fun _ _ _ h => h) (Or.inl ⟨by rfl, fun w' hS => ?_⟩) hSK ?_
            · obtain ⟨s0, s1, s2, s3, s4, s5⟩ := hS
              go_simp
            simp only [Act.put]
            refine L_one (i := 6) (by kernel_rfl) rfl (fun K hK => ?_)
            go_simp
            go_wp2_with (go_at_call 70; (with_reducible refine (HK2.out _).mono ?_); rintro e wS ⟨rfl, hbS⟩)
            have HTS := Lib.hid (HT5.out.drew.below hbS)
            have HXS := Lib.hid (HX4.out.drew.below hbS hb2)
            have y2 := HTS.out.cells.2.2
            have yf := HTS.out.free 2
            have hS3 : wS.cell? ⟨w.heap.size + 1, 2, none⟩ = some (.string O) ∧ True ∧ (wS.cell? ⟨b2, o2 + q * 4, none⟩ = some (.int .i64 kv) ∧ wS.cell? ⟨b2, o2 + q * 4 + 1, none⟩ = some (.int .i64 iv) ∧ wS.cell? ⟨b2, o2 + q * 4 + 2, none⟩ = some (.bool bv) ∧ wS.cell? ⟨b2, o2 + q * 4 + 3, none⟩ = some (.string sv)) := ⟨y2, trivial, HXS.out⟩
            refine hK.out _ _ (fun _ => hS3) ?_
            clear hK K
            refine L_one (i := 7) (by kernel_rfl) rfl (fun K hK => ?_)
            go_simp
            refine hK.out _ _ (fun _ => hS3) ?_
            clear hK K
            refine L_one (i := 8) (by kernel_rfl) rfl (fun K hK => ?_)
            go_simp
            refine hK.out _ _ (fun _ => hS3) ?_
            clear hK K
            refine L_one (i := 9) (by kernel_rfl) rfl (fun K hK => ?_)
            go_simp
            refine hK.out _ _ (fun h => absurd (by simp) h) ?_
            clear hK K hS3 hSK y2 yf
            refine L_done (by kernel_rfl) ?_
            have hbb := bthen hb.drew hbS (Nat.le_refl _)
            have HR := Lib.hid (And.intro (own_set (k := 2) (x := .string (O ++ S2)) (HV.out.drew.below hbS) hszv) (own_set (k := 2) (x := .string (O ++ S2)) (HI.out.drew.below hbS) hszv))
            go_wp2
            go_roundw
            case rel => exact ⟨q + 1, by omega, by go_num, by rw [← HE.out]; exact HTS.out.put2 _, (HT4.out.drew.below hbS).other (by omega), HR.out.1, HR.out.2, hbb.setCell (p := ⟨w.heap.size + 1, 2, none⟩) (Nat.le_succ _) _⟩
            case measure => simp [intOf]; omega
          · obtain rfl : q = W.length := by omega
            rw [List.take_of_length_le (Nat.le_refl _)] at hT5 hfl
            have hst := str_append (cnt W.length ++ W.flatMap scalar) Kp
            have hadd := add_str (str (cnt W.length ++ W.flatMap scalar)) (str Kp) (by have := HF2.out.2.2.1; rw [str_size, str_size, List.length_append]; omega)
            rw [← HF2.out.2.2.2.2.1] at hst
            generalize str (cnt W.length ++ W.flatMap scalar) = O at *
            have HE := Lib.hid hst; clear hst hfl htl
            have hP := Bitpack.refPack_any A4 n c4 (iat P) (wd : Int) wr (hI.sl HF2.out.2.2.2.1) (by omega) HF2.out.2.2.2.2.2
            rw [HF2.out.2.1] at hP
            generalize BitMath.packE (iat P) (wd : Int) = E at hP
            have HP := Lib.hid hP; clear hP hI hV
            have HT5 := Lib.hid hT5; clear hT5
            have HT4 := Lib.hid hT4; clear hT4
            go_wp2_with (first
              | (go_at_call 99; (with_reducible refine (HWD.out _).mono ?_); rintro e w5 ⟨rfl, rfl⟩)
              | (go_at_call 68; (with_reducible refine HP.out.mono ?_); rintro e w6 ⟨rfl, hb6⟩; replace HT5 := Lib.hid (HT5.out.below hb6); replace HT4 := Lib.hid (HT4.out.below hb6); have hbb := bthen hb hb6 (Nat.le_refl _); obtain ⟨y0, y1, y2⟩ := HT5.out.cells; have yf := HT5.out.free 2; obtain ⟨x0, x1, x2⟩ := HT4.out.cells; have xf0 := HT4.out.free 0; have xf1 := HT4.out.free 1; have xf2 := HT4.out.free 2))
            exact ret_tri ((((HT4.out.other (by omega)).put0 X0).put1 X1).put2 (O ++ str Kp)) rfl rfl rfl ⟨by rw [HE.out], (((hbb.setCell (p := ⟨w.heap.size + 1, 2, none⟩) (Nat.le_succ _) _).setCell (p := ⟨w.heap.size, 0, none⟩) (Nat.le_refl _) _).setCell (p := ⟨w.heap.size, 1, none⟩) (Nat.le_refl _) _).setCell (p := ⟨w.heap.size, 2, none⟩) (Nat.le_refl _) _⟩
end Go.Proofs.YtgmemdedpklnhaaGreat.Vec

/-
  THE WALKS of vec.Put and vec.Encoding.
-/


namespace Go.Proofs.YtgmemdedpklnhaaGreat.Vec
open Go.RowKit ValMath Vals Sl VecMath Words

theorem str_list (l : List UInt8) : (str l).data.toList = l := by simp [str]
theorem fits_size {k : Int} {v : Val} (h : fits k v = true) : (clean v).s.size ≤ 64 := by
  unfold fits at h
  by_cases h0 : (clean v).k = 0
  · have : clean v = nul := null_nul_of (by unfold isNull; exact decide_eq_true h0)
    rw [this]; simp [nul]
  · simp [h0] at h; exact h.1.2
theorem may_zero {k : Int} {vs : List Val} (h : mayErr k vs = 0) (hf : ∀ v ∈ vs, Fine v) : vs.length ≤ 4096 ∧ ∀ v ∈ vs, Fine v ∧ (clean v).s.size ≤ 64 := by
  have hm := mayErr_zero h
  exact ⟨hm.2.1, fun v hv => ⟨hf v hv, fits_size (hm.2.2 v hv)⟩⟩
theorem best_len (k : Int) (vs : List Val) (hn : vs.length ≤ 4096) (h : ∀ v ∈ vs, (clean v).s.size ≤ 64) : (best k vs).2.length ≤ 400000 := by
  have hl := somes_length vs
  have hs : ∀ u ∈ somes vs, u.s.size ≤ 64 := fun u hu => by obtain ⟨v, hv, e⟩ := somes_mem hu; rw [← e]; exact h v hv
  have h1 := plain_len k (somes vs) (by omega) hs
  have h2 := encRuns_len (somes vs) (by omega) hs
  have h3 := encWords_len (somes vs) (by omega) hs
  unfold VecMath.best
  rcases best_cases (encPlain k (somes vs)) (encRuns (somes vs)) (encWords (somes vs)) with e | e | e <;> rw [e] <;> simp only [] <;> omega
theorem body_len (k : Int) (vs : List Val) (hn : vs.length ≤ 4096) (h : ∀ v ∈ vs, (clean v).s.size ≤ 64) : (body k vs).length ≤ 401000 := by
  have h1 := best_len k vs hn h
  have h2 := cnt_size vs.length
  have h3 := packed_length 1 (nulls vs)
  rw [nulls_length] at h3
  unfold body
  simp only [List.length_append, List.length_singleton]
  omega
theorem may_int (k : Int) (vs : List Val) : ((mayErr k vs : Nat) : Int) = 0 ∨ ((mayErr k vs : Nat) : Int) = 900 ∨ ((mayErr k vs : Nat) : Int) = 901 := by
  unfold mayErr; split; simp; split; simp; split <;> simp
set_option maxRecDepth 20000 in
set_option maxHeartbeats 4000000 in
theorem put_any (k : Int) (A : Option Addr) (n c : Nat) (vs : List Val) (w : World) (hv : VSl w A n vs) (hf : ∀ v ∈ vs, Fine v) :
    Calls Tryz.prog 27 #[.int .i64 k, .slice A n c] w fun e w' => e = .returned (.tuple #[.string (str (put k vs)), .int .i64 (mayErr k vs : Nat)]) ∧ Below w.heap.size w w' := by
  have hM := fun w (h : VSl w A n vs) => may_any k A n c vs w h hf
  by_cases h0 : mayErr k vs = 0
  · have hz := may_zero h0 hf
    have hE := fun w (h : VSl w A n vs) => encode_any k A n c vs w h (by rw [← hv.1]; exact hz.1) hz.2
    have hbl := body_len k vs hz.1 (fun v h => (hz.2 v h).2)
    have hS := fun w => Crc.seal_any (str (body k vs)) w (by rw [str_size]; unfold maxReach; omega)
    rw [str_list] at hS
    have hp : put k vs = CrcMath.seal_ (body k vs) := by unfold put; rw [if_pos h0]
    rw [hp, h0]
    rw [h0] at hM
    generalize str (CrcMath.seal_ (body k vs)) = Z at *
    generalize str (body k vs) = Y at *
    generalize ((best k vs).1 : Nat) = bf at *
    have HM := Lib.hid hM; clear hM
    have HE := Lib.hid hE; clear hE
    have HS := Lib.hid hS; clear hS hz hbl hp h0 hf
    have HV := Lib.hid hv; clear hv
    go_enter Tryz.func27, Tryz.ntmps27
    go_wp2_with (first
      | (go_at_call 57; (with_reducible refine (HM.out _ HV.out).mono ?_); rintro e w1 ⟨rfl, hb1⟩)
      | (go_at_call 58; (with_reducible refine (HE.out _ (HV.out.below hb1)).mono ?_); rintro e w2 ⟨rfl, hb2⟩)
      | (go_at_call 30; (with_reducible refine (HS.out _).mono ?_); rintro e w3 ⟨rfl, hb3⟩))
    go_ret2
    exact ⟨rfl, bthen (bthen hb1 hb2 (Nat.le_refl _)) hb3 (Nat.le_refl _)⟩
  · have hp : put k vs = [] := by unfold put; rw [if_neg h0]
    rw [hp]
    have hne : (((mayErr k vs : Nat) : Int) != 0) = true := by simp; omega
    generalize ((mayErr k vs : Nat) : Int) = E at *
    have HM := Lib.hid hM; clear hM
    have HV := Lib.hid hv; clear hv h0 hf hp
    go_enter Tryz.func27, Tryz.ntmps27
    go_wp2_with (go_at_call 57; (with_reducible refine (HM.out _ HV.out).mono ?_); rintro e w1 ⟨rfl, hb1⟩)
    go_ret2
    exact ⟨rfl, hb1⟩
end Go.Proofs.YtgmemdedpklnhaaGreat.Vec
