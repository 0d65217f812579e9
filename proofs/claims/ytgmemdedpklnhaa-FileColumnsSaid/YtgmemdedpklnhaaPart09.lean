/-
  Lemmas of this claim, text behind text: Take, VecWays, VecPut. Each states its own conditions.
-/
import Derived.OrdersHeld
import Derived.Test.YtgmemdedpklnhaaPart04
import Derived.Test.YtgmemdedpklnhaaPart05
import Derived.Test.YtgmemdedpklnhaaPart07
import Derived.Test.YtgmemdedpklnhaaPart08

/-
  LOADS FIRST, IN A REGION WHOSE STORES OVERWRITE WHAT IT LOADS: a load may be taken first if each store of a list 'st' waits for it and the condition S on the world holds behind each operation as long as no store of 'st' has come up.
-/


namespace Go.Proofs.Ytgmemdedpklnhaa
open Go.RowKit
section
variable {P : Program} {ops : Array Oper} {Q : Exit → Act → World → Prop} {md : Region.Mode} {S : World → Prop}

/-- No store of 'st' has come up. -/
def calm (st : List Nat) (l : Array Bool) : Bool := st.all fun i => !l.getD i true
/-- Each store of 'st' waits for number i. -/
def waits (md : Region.Mode) (ops : Array Oper) (st : List Nat) (i : Nat) : Bool := st.all fun s => match ops[s]? with | some o => o.after.any (fun e => Region.binds md e && e.on == i) | none => false

theorem calm_set {st : List Nat} {l : Array Bool} {j : Nat} (h : calm st l = true) (hj : j ∉ st) : calm st (l.setIfInBounds j true) = true := by
  unfold calm at h ⊢
  rw [List.all_eq_true] at h ⊢
  intro i hi
  rw [getD_set_ne true (fun e : j = i => hj (by rw [e]; exact hi))]
  exact h i hi

/-- Whatever order is picked; until a store of 'st' has come up, S holds behind each operation. -/
def anyL (P : Program) (md : Region.Mode) (ops : Array Oper) (Q : Exit → Act → World → Prop) (S : World → Prop) (st : List Nat) : Nat → Array Bool → Act → World → Prop
  | 0, listed, a, w => Region.ready md ops listed = [] ∧ Q .normal a w
  | fuel + 1, listed, a, w =>
    (Region.ready md ops listed = [] → Q .normal a w) ∧
    ∀ i ∈ Region.ready md ops listed, wpOp P ops Q i (fun a' w' => (i ∉ st → calm st listed = true → S w') ∧ anyL P md ops Q S st fuel (listed.setIfInBounds i true) a' w') a w

theorem any_of_L {st : List Nat} : ∀ (fuel : Nat) (listed : Array Bool) (a : Act) (w : World), anyL P md ops Q S st fuel listed a w → wpAny P md ops Q fuel listed a w
  | 0, _, _, _, h => h
  | fuel + 1, _, _, _, h => ⟨h.1, fun i hi => wpOp_mono (fun a' w' h' => any_of_L fuel _ a' w' h'.2) (h.2 i hi)⟩

theorem L_first {st : List Nat} {i : Nat} {oi : Oper} {v : Value} (hi : ops[i]? = some oi) (hsel : ∀ (j : Nat) (o : Oper) cs b, ops[j]? = some o → o.op ≠ .select cs b)
    (hQ : ∀ c a w, Q (.panic c) (a.put oi.dst v) w → Q (.panic c) a w) (hm : i ∉ st)
    (hw : ∀ s ∈ st, ∃ os, ops[s]? = some os ∧ ∃ e ∈ os.after, Region.binds md e = true ∧ e.on = i) :
    ∀ (fuel : Nat) (listed : Array Bool) (a : Act) (w : World),
      (∀ j oj, ops[j]? = some oj → j ≠ i → listed.getD j true = false → (∀ e ∈ oj.after, Region.binds md e = true → e.on ≠ i) → oi.apart ops oj = true) →
      i ∈ Region.ready md ops listed → YieldsIf P ops S oi v a → calm st listed = true → S w →
      anyL P md ops Q S st fuel (listed.setIfInBounds i true) (a.put oi.dst v) w → anyL P md ops Q S st (fuel + 1) listed a w := by
  intro fuel
  induction fuel with
  | zero =>
    intro listed a w _ hr hy hc hS H
    refine ⟨fun h => (by rw [h] at hr; cases hr), fun j hj => ?_⟩
    by_cases hji : j = i
    · subst hji; exact hy.wpOp hi hS ⟨fun _ _ => hS, H⟩
    · have h := ready_mono hj hji
      rw [H.1] at h
      cases h
  | succ fuel ih =>
    intro listed a w hfree hr hy hc hS H
    have h0 := (mem_ready.1 hr).1
    refine ⟨fun h => (by rw [h] at hr; cases hr), fun j hj => ?_⟩
    by_cases hji : j = i
    · subst hji; exact hy.wpOp hi hS ⟨fun _ _ => hS, H⟩
    · have h1 := H.2 j (ready_mono hj hji)
      obtain ⟨hjun, oj, hoj, hall⟩ := mem_ready.1 hj
      have hnot : ∀ e ∈ oj.after, Region.binds md e = true → e.on ≠ i := fun e he hb heq => by
        have h1 := hall e he hb
        rw [heq] at h1
        by_cases hz : i < listed.size
        · simp [hz] at h0 h1; rw [h0] at h1; cases h1
        · simp [hz] at h0
      have hjs : j ∉ st := fun hjs => by
        obtain ⟨os, hos, e, he, hb, hei⟩ := hw j hjs
        rw [hoj] at hos
        obtain rfl := Option.some.inj hos
        exact hnot e he hb hei
      have h2 := wpOp_putIf hoj (hfree j oj hoj hji hjun hnot) (fun cs b => hsel i oi cs b hi) (fun cs b => hsel j oj cs b hoj) hQ hy h1
      have hfree' : ∀ k ok, ops[k]? = some ok → k ≠ i → (listed.setIfInBounds j true).getD k true = false →
          (∀ e ∈ ok.after, Region.binds md e = true → e.on ≠ i) → oi.apart ops ok = true := fun k ok hk hki hun hno => by
        refine hfree k ok hk hki ?_ hno
        by_cases hjk : j = k
        · subst hjk; exact hjun
        · rw [getD_set_ne true hjk] at hun; exact hun
      refine wpOp_mono (fun a' w' h3 => ?_) h2
      have hSw : S w' := h3.2.1 hjs (calm_set hc hm)
      refine ⟨fun _ _ => hSw, ih (listed.setIfInBounds j true) a' w' hfree' (ready_mono hr (Ne.symm hji)) h3.1 (calm_set hc hjs) hSw ?_⟩
      rw [Array.setIfInBounds_comm _ _ hji]
      exact h3.2.2

theorem waits_spec {st : List Nat} {i : Nat} (h : waits md ops st i = true) : ∀ s ∈ st, ∃ os, ops[s]? = some os ∧ ∃ e ∈ os.after, Region.binds md e = true ∧ e.on = i := by
  intro s hs
  unfold waits at h
  rw [List.all_eq_true] at h
  have h1 := h s hs
  cases ho : ops[s]? with
  | none => rw [ho] at h1; cases h1
  | some os =>
    rw [ho] at h1
    simp only [Array.any_eq_true', Bool.and_eq_true, beq_iff_eq] at h1
    exact ⟨os, rfl, h1⟩

/-- Take number i first. -/
theorem L_take {st : List Nat} {i : Nat} {oi : Oper} {v : Value} {fuel : Nat} {listed : Array Bool} {a : Act} {w : World} (hi : ops[i]? = some oi)
    (hs : Region.noSelect ops = true) (hf : Region.free md ops listed i = true) (hr : (Region.ready md ops listed).contains i = true) (hw : waits md ops st i = true) (hm : st.contains i = false) (hc : calm st listed = true)
    (hQ : ∀ c a w, Q (.panic c) (a.put oi.dst v) w → Q (.panic c) a w) (hy : YieldsIf P ops S oi v a) (hS : S w)
    (h : anyL P md ops Q S st fuel (listed.setIfInBounds i true) (a.put oi.dst v) w) : anyL P md ops Q S st (fuel + 1) listed a w :=
  L_first hi (Region.noSelect_spec hs) hQ (by simpa using hm) (waits_spec hw) fuel listed a w (Region.free_spec hi hf) (by simpa using hr) hy hc hS h

/-- The one that may come up comes up. -/
theorem L_one {st : List Nat} {i : Nat} {o : Oper} {fuel : Nat} {listed : Array Bool} {a : Act} {w : World} (hr : Region.ready md ops listed = [i]) (ho : ops[i]? = some o)
    (h : ∀ K' : Act → World → Prop, Shut (∀ a w, (i ∉ st → S w) → anyL P md ops Q S st fuel (listed.setIfInBounds i true) a w → K' a w) → if Region.wanted o (yielded ops a.tmps) = true then Oper.wp P o a w K' Q else K' (a.put o.dst undef) w) : anyL P md ops Q S st (fuel + 1) listed a w :=
  ⟨fun h0 => (by rw [hr] at h0; cases h0), fun j hj => by
    rw [hr] at hj
    obtain rfl := List.mem_singleton.1 hj
    exact wpOp_step ho (fun K' hK => h K' (fun a w hS hW => hK a w ⟨fun h1 _ => hS h1, hW⟩))⟩
/-- One of two. -/
theorem L_two {st : List Nat} {i j : Nat} {o p : Oper} {fuel : Nat} {listed : Array Bool} {a : Act} {w : World} (hr : Region.ready md ops listed = [i, j]) (ho : ops[i]? = some o) (hp : ops[j]? = some p)
    (h : ∀ K' : Act → World → Prop, Shut (∀ a w, (i ∉ st → S w) → anyL P md ops Q S st fuel (listed.setIfInBounds i true) a w → K' a w) → if Region.wanted o (yielded ops a.tmps) = true then Oper.wp P o a w K' Q else K' (a.put o.dst undef) w)
    (h2 : ∀ K' : Act → World → Prop, Shut (∀ a w, (j ∉ st → S w) → anyL P md ops Q S st fuel (listed.setIfInBounds j true) a w → K' a w) → if Region.wanted p (yielded ops a.tmps) = true then Oper.wp P p a w K' Q else K' (a.put p.dst undef) w) : anyL P md ops Q S st (fuel + 1) listed a w :=
  ⟨fun h0 => (by rw [hr] at h0; cases h0), fun k hk => by
    rw [hr] at hk
    rcases List.mem_cons.1 hk with rfl | hk
    · exact wpOp_step ho (fun K' hK => h K' (fun a w hS hW => hK a w ⟨fun h1 _ => hS h1, hW⟩))
    · obtain rfl := List.mem_singleton.1 hk
      exact wpOp_step hp (fun K' hK => h2 K' (fun a w hS hW => hK a w ⟨fun h1 _ => hS h1, hW⟩))⟩
theorem L_done {st : List Nat} {fuel : Nat} {listed : Array Bool} {a : Act} {w : World} (hr : Region.ready md ops listed = []) (h : Q .normal a w) : anyL P md ops Q S st fuel listed a w := by
  cases fuel with
  | zero => exact ⟨hr, h⟩
  | succ n => exact ⟨fun _ => h, by rw [hr]; simp⟩
end
end Go.Proofs.Ytgmemdedpklnhaa

/-
  THE WALK of the document's own three ways.
-/



namespace Go.Proofs.Ytgmemdedpklnhaa.Vec
open Go.RowKit ValMath Vals Sl VecMath Words

theorem own_set {w : World} {B g k z n : Nat} {e : TypeId} {v : Value} {xs : List Value} {x : Value} (h : w.ownsRow B e z v n xs) (hg : g < B) : (w.setCell ⟨g, k, none⟩ x).ownsRow B e z v n xs := by
  have hgr : w.grownBy (w.setCell ⟨g, k, none⟩ x) (some g) := Mem.grown_set w g k x (n := 0) (c := 0)
  exact World.ownsRow.kept h hgr (.inr (fun e => by have := (World.ownsRow.lt h g e).1; omega))

end Go.Proofs.Ytgmemdedpklnhaa.Vec

/-
  THE WALKS of vec.Put and vec.Encoding.
-/


namespace Go.Proofs.Ytgmemdedpklnhaa.Vec
open Go.RowKit ValMath Vals Sl VecMath Words

theorem str_list (l : List UInt8) : (str l).data.toList = l := by simp [str]
theorem fits_size {k : Int} {v : Val} (h : fits k v = true) : (clean v).s.size ≤ 64 := by
  unfold fits at h
  by_cases h0 : (clean v).k = 0
  · have : clean v = nul := null_nul_of (by unfold isNull; exact decide_eq_true h0)
    rw [this]; simp [nul]
  · simp [h0] at h; exact h.1.2
theorem may_zero {k : Int} {vs : List Val} (h : mayErr k vs = 0) (hf : ∀ v ∈ vs, Fine v) : vs.length ≤ 4096 ∧ ∀ v ∈ vs, Fine v ∧ (clean v).s.size ≤ 64 := by
  have hm := mayErr_zero h
  exact ⟨hm.2.1, fun v hv => ⟨hf v hv, fits_size (hm.2.2 v hv)⟩⟩
theorem best_len (k : Int) (vs : List Val) (hn : vs.length ≤ 4096) (h : ∀ v ∈ vs, (clean v).s.size ≤ 64) : (best k vs).2.length ≤ 400000 := by
  have hl := somes_length vs
  have hs : ∀ u ∈ somes vs, u.s.size ≤ 64 := fun u hu => by obtain ⟨v, hv, e⟩ := somes_mem hu; rw [← e]; exact h v hv
  have h1 := plain_len k (somes vs) (by omega) hs
  have h2 := encRuns_len (somes vs) (by omega) hs
  have h3 := encWords_len (somes vs) (by omega) hs
  unfold VecMath.best
  rcases best_cases (encPlain k (somes vs)) (encRuns (somes vs)) (encWords (somes vs)) with e | e | e <;> rw [e] <;> simp only [] <;> omega
theorem body_len (k : Int) (vs : List Val) (hn : vs.length ≤ 4096) (h : ∀ v ∈ vs, (clean v).s.size ≤ 64) : (body k vs).length ≤ 401000 := by
  have h1 := best_len k vs hn h
  have h2 := cnt_size vs.length
  have h3 := packed_length 1 (nulls vs)
  rw [nulls_length] at h3
  unfold body
  simp only [List.length_append, List.length_singleton]
  omega
theorem may_int (k : Int) (vs : List Val) : ((mayErr k vs : Nat) : Int) = 0 ∨ ((mayErr k vs : Nat) : Int) = 900 ∨ ((mayErr k vs : Nat) : Int) = 901 := by
  unfold mayErr; split; simp; split; simp; split <;> simp
set_option maxRecDepth 20000 in
set_option maxHeartbeats 4000000 in
theorem put_any (k : Int) (A : Option Addr) (n c : Nat) (vs : List Val) (w : World) (hv : VSl w A n vs) (hf : ∀ v ∈ vs, Fine v) :
    Calls Try.prog 19 #[.int .i64 k, .slice A n c] w fun e w' => e = .returned (.tuple #[.string (str (put k vs)), .int .i64 (mayErr k vs : Nat)]) ∧ Below w.heap.size w w' := by
  have hM := fun w (h : VSl w A n vs) => may_any k A n c vs w h hf
  by_cases h0 : mayErr k vs = 0
  · have hz := may_zero h0 hf
    have hE := fun w (h : VSl w A n vs) => encode_any k A n c vs w h (by rw [← hv.1]; exact hz.1) hz.2
    have hbl := body_len k vs hz.1 (fun v h => (hz.2 v h).2)
    have hS := fun w => Crc.seal_any (str (body k vs)) w (by rw [str_size]; unfold maxReach; omega)
    rw [str_list] at hS
    have hp : put k vs = CrcMath.seal_ (body k vs) := by unfold put; rw [if_pos h0]
    rw [hp, h0]
    rw [h0] at hM
    generalize str (CrcMath.seal_ (body k vs)) = Z at *
    generalize str (body k vs) = Y at *
    generalize ((best k vs).1 : Nat) = bf at *
    have HM := Lib.hid hM; clear hM
    have HE := Lib.hid hE; clear hE
    have HS := Lib.hid hS; clear hS hz hbl hp h0 hf
    have HV := Lib.hid hv; clear hv
    go_enter Try.func19, Try.ntmps19
    go_wp2_with (first
      | (go_at_call 41; (with_reducible refine (HM.out _ HV.out).mono ?_); rintro e w1 ⟨rfl, hb1⟩)
      | (go_at_call 42; (with_reducible refine (HE.out _ (HV.out.below hb1)).mono ?_); rintro e w2 ⟨rfl, hb2⟩)
      | (go_at_call 22; (with_reducible refine (HS.out _).mono ?_); rintro e w3 ⟨rfl, hb3⟩))
    go_ret2
    exact ⟨rfl, bthen (bthen hb1 hb2 (Nat.le_refl _)) hb3 (Nat.le_refl _)⟩
  · have hp : put k vs = [] := by unfold put; rw [if_neg h0]
    rw [hp]
    have hne : (((mayErr k vs : Nat) : Int) != 0) = true := by simp; omega
    generalize ((mayErr k vs : Nat) : Int) = E at *
    have HM := Lib.hid hM; clear hM
    have HV := Lib.hid hv; clear hv h0 hf hp
    go_enter Try.func19, Try.ntmps19
    go_wp2_with (go_at_call 41; (with_reducible refine (HM.out _ HV.out).mono ?_); rintro e w1 ⟨rfl, hb1⟩)
    go_ret2
    exact ⟨rfl, hb1⟩
end Go.Proofs.Ytgmemdedpklnhaa.Vec
