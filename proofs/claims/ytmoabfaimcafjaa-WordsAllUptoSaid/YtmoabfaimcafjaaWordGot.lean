/-
  BUILD AND LOOK AS THEIR CALLERS WANT THEM; the walk of boathouselaw8.awake.
-/
import Derived.Test.YtmoabfaimcafjaaWordLookR
import Derived.Test.YtmoabfaimcafjaaMem
import Derived.Test.YtmoabfaimcafjaaNum
namespace Go.Proofs.Ytmoabfaimcafjaa.Words
open Go.RowKit ValMath Vals Sl Mem

/-- Words and places as they were handed back. -/
structure GotW (w : World) (B : Nat) (A1 A2 : Option Addr) (m n c1 c2 : Nat) (s : List Val × List Nat) : Prop where
  own1 : OwnV w B (.slice A1 m c1) s.1
  own2 : OwnI w B (.slice A2 n c2) (iat s.2)
  len1 : s.1.length = m
  len2 : s.2.length = n
theorem GotW.below {w w' : World} {B m n c1 c2 : Nat} {A1 A2 : Option Addr} {s : List Val × List Nat} (h : GotW w B A1 A2 m n c1 c2 s) (hb : Below w.heap.size w w') : GotW w' B A1 A2 m n c1 c2 s := ⟨h.own1.below hb, h.own2.below hb, h.len1, h.len2⟩
theorem GotW.drewN {w : World} {B m n c1 c2 : Nat} {A1 A2 : Option Addr} {s : List Val × List Nat} (h : GotW w B A1 A2 m n c1 c2 s) (k : Nat) : GotW (w.drewN k) B A1 A2 m n c1 c2 s := ⟨h.own1.drewN k, h.own2.drewN k, h.len1, h.len2⟩
theorem GotW.sl1 {w : World} {B m n c1 c2 : Nat} {A1 A2 : Option Addr} {s : List Val × List Nat} (h : GotW w B A1 A2 m n c1 c2 s) : VSl w A1 m s.1 := h.own1.sl h.len1
theorem GotW.sl2 {w : World} {B m n c1 c2 : Nat} {A1 A2 : Option Addr} {s : List Val × List Nat} (h : GotW w B A1 A2 m n c1 c2 s) : ISl w A2 n (iat s.2) := h.own2.sl (by rw [iat_length, h.len2])
theorem GotW.grown {w w' : World} {B m n c1 c2 : Nat} {A1 A2 : Option Addr} {s : List Val × List Nat} {row : Option Nat} (h : GotW w B A1 A2 m n c1 c2 s) (hg : w.grownBy w' row) (hr : ∀ k, row = some k → k < B) : GotW w' B A1 A2 m n c1 c2 s := by
  have key : ∀ {z n : Nat} {e : TypeId} {v : Value} {xs : List Value}, w.ownsRow B e z v n xs → v.ownBlock = none ∨ v.ownBlock ≠ row := by
    intro z n e v xs ho
    cases hv : v.ownBlock with
    | none => exact .inl rfl
    | some k => exact .inr (fun e => by have := hr k e.symm; have := (World.ownsRow.lt ho k hv).1; omega)
  exact ⟨World.ownsRow.kept h.own1 hg (key h.own1), World.ownsRow.kept h.own2 hg (key h.own2), h.len1, h.len2⟩
theorem gotW_of {w : World} {B m n : Nat} {u1 u2 : Value} {s : List Val × List Nat} (h1 : OwnV w B u1 s.1) (h2 : OwnI w B u2 (iat s.2)) (hm : s.1.length = m) (hn : s.2.length = n) :
    ∃ A1 c1 A2 c2, u1 = .slice A1 m c1 ∧ u2 = .slice A2 n c2 ∧ GotW w B A1 A2 m n c1 c2 s := by
  obtain ⟨A1, c1, rfl, _⟩ := h1.form' hm
  obtain ⟨A2, c2, rfl, _⟩ := h2.form (n := n) (by rw [iat_length, hn])
  exact ⟨A1, c1, A2, c2, rfl, rfl, h1, h2, hm, hn⟩
theorem fine_len {vs : List Val} (h : ∀ v ∈ vs, Fine v) : ∀ v ∈ vs, v.s.size ≤ maxLen := fun v hv => Nat.le_trans (h v hv).s (by unfold maxLen; omega)
theorem build_got (A : Option Addr) (n c : Nat) (vs : List Val) (w : World) (hv : VSl w A n vs) (hn : n * 40 ≤ 140737488355280) (hf : ∀ v ∈ vs, Fine v) (m : Nat) (hm : (build vs).1.length = m) :
    Calls Try.prog 24 #[.slice A n c] w fun e w' => ∃ A1 c1 A2 c2, e = .returned (.tuple #[.slice A1 m c1, .slice A2 n c2]) ∧ GotW w' w.heap.size A1 A2 m n c1 c2 (build vs) ∧ Below w.heap.size w w' := by
  refine (build_any A n c vs w hv hn hf).mono ?_
  rintro e w' ⟨u1, u2, rfl, h1, h2, hb⟩
  obtain ⟨A1, c1, A2, c2, rfl, rfl, hg⟩ := gotW_of h1 h2 hm (by rw [build_at_length, hv.1])
  exact ⟨A1, c1, A2, c2, rfl, hg, hb⟩
theorem buildR_got (A : Option Addr) (n c : Nat) (vs : List Val) (w : World) (hv : VSl w A n vs) (hn : n * 40 ≤ 140737488355280) (hf : ∀ v ∈ vs, v.s.size ≤ maxLen) (m : Nat) (hm : (build vs).1.length = m) :
    Calls Try.prog 25 #[.slice A n c] w fun e w' => ∃ A1 c1 A2 c2, e = .returned (.tuple #[.slice A1 m c1, .slice A2 n c2]) ∧ GotW w' w.heap.size A1 A2 m n c1 c2 (build vs) ∧ Below w.heap.size w w' := by
  refine (buildR_any A n c vs w hv hn hf).mono ?_
  rintro e w' ⟨u1, u2, rfl, h1, h2, hb⟩
  obtain ⟨A1, c1, A2, c2, rfl, rfl, hg⟩ := gotW_of h1 h2 hm (by rw [build_at_length, hv.1])
  exact ⟨A1, c1, A2, c2, rfl, hg, hb⟩

/-- Values as they were handed back. -/
structure GotV (w : World) (B : Nat) (A : Option Addr) (m c : Nat) (vs : List Val) : Prop where
  own : OwnV w B (.slice A m c) vs
  len : vs.length = m
theorem GotV.below {w w' : World} {B m c : Nat} {A : Option Addr} {vs : List Val} (h : GotV w B A m c vs) (hb : Below w.heap.size w w') : GotV w' B A m c vs := ⟨h.own.below hb, h.len⟩
theorem GotV.drewN {w : World} {B m c : Nat} {A : Option Addr} {vs : List Val} (h : GotV w B A m c vs) (k : Nat) : GotV (w.drewN k) B A m c vs := ⟨h.own.drewN k, h.len⟩
theorem GotV.sl {w : World} {B m c : Nat} {A : Option Addr} {vs : List Val} (h : GotV w B A m c vs) : VSl w A m vs := h.own.sl h.len
theorem gotV_of {w : World} {B m : Nat} {u : Value} {vs : List Val} (h : OwnV w B u vs) (hm : vs.length = m) : ∃ A c, u = .slice A m c ∧ GotV w B A m c vs := by
  obtain ⟨A, c, rfl, _⟩ := h.form' hm
  exact ⟨A, c, rfl, h, hm⟩
theorem look_got (A C : Option Addr) (n m c d : Nat) (ws : List Val) (ks : List Int) (w : World) (hv : VSl w A n ws) (hx : ISl w C m ks) (hn : n * 40 ≤ 140737488355280) (hm : m * 40 ≤ 140737488355280) (hf : ∀ v ∈ ws, Fine v) (q : Nat) (hq : (lookVals ws ks).length = q) (cd : Int) (hcd : lookCode ws ks = cd) :
    Calls Try.prog 26 #[.slice A n c, .slice C m d] w fun e w' => ∃ A1 c1, e = .returned (.tuple #[.slice A1 q c1, .int .i64 cd]) ∧ GotV w' w.heap.size A1 q c1 (lookVals ws ks) ∧ Below w.heap.size w w' := by
  refine (look_any A C n c m d ws ks w hv hx hn hm hf).mono ?_
  rintro e w' ⟨u, rfl, h1, hb⟩
  obtain ⟨A1, c1, rfl, hg⟩ := gotV_of h1 hq
  exact ⟨A1, c1, by rw [hcd], hg, hb⟩
theorem lookR_got (A C : Option Addr) (n m c d : Nat) (ws : List Val) (ks : List Int) (w : World) (hv : VSl w A n ws) (hx : ISl w C m ks) (hn : n * 40 ≤ 140737488355280) (hm : m * 40 ≤ 140737488355280) (hf : ∀ v ∈ ws, v.s.size ≤ maxLen) (q : Nat) (hq : (lookVals ws ks).length = q) (cd : Int) (hcd : lookCode ws ks = cd) :
    Calls Try.prog 27 #[.slice A n c, .slice C m d] w fun e w' => ∃ A1 c1, e = .returned (.tuple #[.slice A1 q c1, .int .i64 cd]) ∧ GotV w' w.heap.size A1 q c1 (lookVals ws ks) ∧ Below w.heap.size w w' := by
  refine (lookR_any A C n c m d ws ks w hv hx hn hm hf).mono ?_
  rintro e w' ⟨u, rfl, h1, hb⟩
  obtain ⟨A1, c1, rfl, hg⟩ := gotV_of h1 hq
  exact ⟨A1, c1, by rw [hcd], hg, hb⟩

def one : Val := ⟨1, 1, false, ByteArray.empty⟩
def two : Val := ⟨2, 0, true, ByteArray.empty⟩
theorem build_awake : build [one, two, one] = ([one, two], [0, 1, 0]) := by decide
theorem look_awake1 : lookVals [one, two] [0, 1, 0] = [one, two, one] ∧ lookCode [one, two] [0, 1, 0] = 0 := by decide
theorem look_awake2 : lookVals [one, two] [2] = [] ∧ lookCode [one, two] [2] = 800 := by decide
theorem fine_one : Fine one := by constructor <;> decide
theorem fine_two : Fine two := by constructor <;> decide
theorem fine3 : ∀ v ∈ [one, two, one], Fine v := by intro v hv; simp only [List.mem_cons, List.not_mem_nil, or_false] at hv; rcases hv with rfl | rfl | rfl; exact fine_one; exact fine_two; exact fine_one
theorem fine2 : ∀ v ∈ [one, two], Fine v := by intro v hv; simp at hv; rcases hv with rfl | rfl; exact fine_one; exact fine_two
theorem true_of {p : Prop} [Decidable p] {w w' : World} {e : Ending} {b : Bool} (hp : decide p = b) (h : e = .returned (.bool (decide p)) ∧ ∃ k, w' = w.drewN k) : e = .returned (.bool b) ∧ Below w.heap.size w w' := by
  obtain ⟨rfl, k, rfl⟩ := h; rw [hp]; exact ⟨rfl, below_drewN (Below.refl _ _) k⟩

set_option maxRecDepth 20000 in
set_option maxHeartbeats 4000000 in
theorem awake_any (w : World) : Calls Try.prog 34 #[] w fun e w' => e = .returned (.bool true) ∧ Below w.heap.size w w' := by
  go_enter Try.func34, Try.ntmps34
  go_wp2_with fail
  refine (build_got _ 3 3 [one, two, one] _ (VSl.at3 _ _ (by simp) one two one _) (by omega) fine3 2 (by rw [build_awake]; rfl)).mono ?_
  rintro e w1 ⟨A1, c1, A2, c2, rfl, hg1, hb1⟩
  rw [build_awake] at hg1
  have k1 : At4 w1 w.heap.size 0 one := (((At4.new w _ rfl one _).alloc (by simp) _).alloc (by simp; omega) _).below hb1 (by simp; omega)
  have k2 : At4 w1 (w.heap.size + 1) 0 two := ((At4.new (w.alloc _) _ (by simp) two _).alloc (by simp) _).below hb1 (by simp)
  have hz1 := hb1.size
  simp only [World.size_alloc] at hz1
  have hbt := bthen (Vals.three_new _ _ _) hb1 (Nat.le_refl _)
  have HBT := Lib.hid hbt; clear hbt hb1
  have H1 := Lib.hid k1; have H2 := Lib.hid k2
  have HA := Lib.hid hg1; clear hg1
  obtain ⟨a0, a1, a2, a3⟩ := k1.zero
  obtain ⟨b0, b1, b2, b3⟩ := k2.zero
  simp only [one, two] at a0 a1 a2 a3 b0 b1 b2 b3
  clear k1 k2
  have hl0 : w.heap.size < w1.heap.size := by omega
  have hl1 : w.heap.size + 1 < w1.heap.size := by omega
  clear hz1
  go_wp2_with fail
  refine (look_got _ _ 2 3 _ _ [one, two] [0, 1, 0] _ HA.out.sl1 HA.out.sl2 (by omega) (by omega) fine2 3 (by rw [look_awake1.1]; rfl) 0 look_awake1.2).mono ?_
  rintro e w2 ⟨A3, c3, rfl, hE, hb2⟩
  rw [look_awake1.1] at hE
  replace H1 := Lib.hid (H1.out.below hb2 hl0)
  replace H2 := Lib.hid (H2.out.below hb2 hl1)
  replace hl0 := Nat.lt_of_lt_of_le hl0 hb2.size
  replace hl1 := Nat.lt_of_lt_of_le hl1 hb2.size
  (try replace HA := Lib.hid (HA.out.below hb2))
  (try replace HE := Lib.hid (HE.out.below hb2))
  replace HBT := Lib.hid (bthen HBT.out hb2 (Nat.le_refl _))
  (try clear a0 a1 a2 a3 b0 b1 b2 b3)
  obtain ⟨a0, a1, a2, a3⟩ := H1.out.zero
  obtain ⟨b0, b1, b2, b3⟩ := H2.out.zero
  simp only [one, two] at a0 a1 a2 a3 b0 b1 b2 b3
  have HE := Lib.hid hE; clear hE hb2
  go_wp2_with fail
  have ho4 := Vals.one_new (w := w2) (.cells #[.int .i64 2] 3)
  replace H1 := Lib.hid (H1.out.below ho4 hl0)
  replace H2 := Lib.hid (H2.out.below ho4 hl1)
  replace hl0 := Nat.lt_of_lt_of_le hl0 ho4.size
  replace hl1 := Nat.lt_of_lt_of_le hl1 ho4.size
  (try replace HA := Lib.hid (HA.out.below ho4))
  (try replace HE := Lib.hid (HE.out.below ho4))
  replace HBT := Lib.hid (bthen HBT.out ho4 (Nat.le_refl _))
  (try clear a0 a1 a2 a3 b0 b1 b2 b3)
  obtain ⟨a0, a1, a2, a3⟩ := H1.out.zero
  obtain ⟨b0, b1, b2, b3⟩ := H2.out.zero
  simp only [one, two] at a0 a1 a2 a3 b0 b1 b2 b3
  clear ho4
  refine (look_got _ _ 2 1 _ _ [one, two] [2] _ HA.out.sl1 (ISl.at_new _ _ (by simp) [2] _ _ rfl) (by omega) (by omega) fine2 0 (by rw [look_awake2.1]; rfl) 800 look_awake2.2).mono ?_
  rintro e w3 ⟨A4, c4, rfl, _, hb3⟩
  replace H1 := Lib.hid (H1.out.below hb3 hl0)
  replace H2 := Lib.hid (H2.out.below hb3 hl1)
  replace hl0 := Nat.lt_of_lt_of_le hl0 hb3.size
  replace hl1 := Nat.lt_of_lt_of_le hl1 hb3.size
  (try replace HA := Lib.hid (HA.out.below hb3))
  (try replace HE := Lib.hid (HE.out.below hb3))
  replace HBT := Lib.hid (bthen HBT.out hb3 (Nat.le_refl _))
  (try clear a0 a1 a2 a3 b0 b1 b2 b3)
  obtain ⟨a0, a1, a2, a3⟩ := H1.out.zero
  obtain ⟨b0, b1, b2, b3⟩ := H2.out.zero
  simp only [one, two] at a0 a1 a2 a3 b0 b1 b2 b3
  clear hb3
  go_wp2_with fail
  have ho5 := Vals.one_new (w := w3) (.cells #[.int .i64 one.k, .int .i64 one.i, .bool one.b, .string one.s, .int .i64 two.k, .int .i64 two.i, .bool two.b, .string two.s] 38)
  replace H1 := Lib.hid (H1.out.below ho5 hl0)
  replace H2 := Lib.hid (H2.out.below ho5 hl1)
  replace hl0 := Nat.lt_of_lt_of_le hl0 ho5.size
  replace hl1 := Nat.lt_of_lt_of_le hl1 ho5.size
  (try replace HA := Lib.hid (HA.out.below ho5))
  (try replace HE := Lib.hid (HE.out.below ho5))
  replace HBT := Lib.hid (bthen HBT.out ho5 (Nat.le_refl _))
  (try clear a0 a1 a2 a3 b0 b1 b2 b3)
  obtain ⟨a0, a1, a2, a3⟩ := H1.out.zero
  obtain ⟨b0, b1, b2, b3⟩ := H2.out.zero
  simp only [one, two] at a0 a1 a2 a3 b0 b1 b2 b3
  clear ho5
  refine ((sameValues_any _ _ 2 2 _ _ [one, two] [one, two] _ HA.out.sl1 (VSl.at2 _ _ (by simp) one two _) (by unfold maxLen; omega)).mono (fun _ _ h => true_of (decide_eq_true rfl) h)).mono ?_
  rintro e w4 ⟨rfl, hb4⟩
  replace H1 := Lib.hid (H1.out.below hb4 hl0)
  replace H2 := Lib.hid (H2.out.below hb4 hl1)
  replace hl0 := Nat.lt_of_lt_of_le hl0 hb4.size
  replace hl1 := Nat.lt_of_lt_of_le hl1 hb4.size
  (try replace HA := Lib.hid (HA.out.below hb4))
  (try replace HE := Lib.hid (HE.out.below hb4))
  replace HBT := Lib.hid (bthen HBT.out hb4 (Nat.le_refl _))
  (try clear a0 a1 a2 a3 b0 b1 b2 b3)
  obtain ⟨a0, a1, a2, a3⟩ := H1.out.zero
  obtain ⟨b0, b1, b2, b3⟩ := H2.out.zero
  simp only [one, two] at a0 a1 a2 a3 b0 b1 b2 b3
  clear hb4
  go_wp2_with fail
  have ho6 := Vals.one_new (w := w4) (.cells #[.int .i64 0, .int .i64 1, .int .i64 0] 3)
  replace H1 := Lib.hid (H1.out.below ho6 hl0)
  replace H2 := Lib.hid (H2.out.below ho6 hl1)
  replace hl0 := Nat.lt_of_lt_of_le hl0 ho6.size
  replace hl1 := Nat.lt_of_lt_of_le hl1 ho6.size
  (try replace HA := Lib.hid (HA.out.below ho6))
  (try replace HE := Lib.hid (HE.out.below ho6))
  replace HBT := Lib.hid (bthen HBT.out ho6 (Nat.le_refl _))
  (try clear a0 a1 a2 a3 b0 b1 b2 b3)
  obtain ⟨a0, a1, a2, a3⟩ := H1.out.zero
  obtain ⟨b0, b1, b2, b3⟩ := H2.out.zero
  simp only [one, two] at a0 a1 a2 a3 b0 b1 b2 b3
  clear ho6
  refine ((sameInts_any _ _ 3 3 _ _ [0, 1, 0] [0, 1, 0] _ HA.out.sl2 (ISl.at_new _ _ (by simp) [0, 1, 0] _ _ rfl) (by unfold maxLen; omega)).mono (fun _ _ h => true_of (decide_eq_true rfl) h)).mono ?_
  rintro e w5 ⟨rfl, hb5⟩
  replace H1 := Lib.hid (H1.out.below hb5 hl0)
  replace H2 := Lib.hid (H2.out.below hb5 hl1)
  replace hl0 := Nat.lt_of_lt_of_le hl0 hb5.size
  replace hl1 := Nat.lt_of_lt_of_le hl1 hb5.size
  (try replace HA := Lib.hid (HA.out.below hb5))
  (try replace HE := Lib.hid (HE.out.below hb5))
  replace HBT := Lib.hid (bthen HBT.out hb5 (Nat.le_refl _))
  (try clear a0 a1 a2 a3 b0 b1 b2 b3)
  obtain ⟨a0, a1, a2, a3⟩ := H1.out.zero
  obtain ⟨b0, b1, b2, b3⟩ := H2.out.zero
  simp only [one, two] at a0 a1 a2 a3 b0 b1 b2 b3
  clear hb5
  go_wp2_with fail
  have ho7 := Vals.one_new (w := w5) (.cells #[.int .i64 one.k, .int .i64 one.i, .bool one.b, .string one.s, .int .i64 two.k, .int .i64 two.i, .bool two.b, .string two.s, .int .i64 one.k, .int .i64 one.i, .bool one.b, .string one.s] 38)
  replace H1 := Lib.hid (H1.out.below ho7 hl0)
  replace H2 := Lib.hid (H2.out.below ho7 hl1)
  replace hl0 := Nat.lt_of_lt_of_le hl0 ho7.size
  replace hl1 := Nat.lt_of_lt_of_le hl1 ho7.size
  (try replace HA := Lib.hid (HA.out.below ho7))
  (try replace HE := Lib.hid (HE.out.below ho7))
  replace HBT := Lib.hid (bthen HBT.out ho7 (Nat.le_refl _))
  (try clear a0 a1 a2 a3 b0 b1 b2 b3)
  obtain ⟨a0, a1, a2, a3⟩ := H1.out.zero
  obtain ⟨b0, b1, b2, b3⟩ := H2.out.zero
  simp only [one, two] at a0 a1 a2 a3 b0 b1 b2 b3
  clear ho7
  refine ((sameValues_any _ _ 3 3 _ _ [one, two, one] [one, two, one] _ HE.out.sl (VSl.at3 _ _ (by simp) one two one _) (by unfold maxLen; omega)).mono (fun _ _ h => true_of (decide_eq_true rfl) h)).mono ?_
  rintro e w6 ⟨rfl, hb6⟩
  replace H1 := Lib.hid (H1.out.below hb6 hl0)
  replace H2 := Lib.hid (H2.out.below hb6 hl1)
  replace hl0 := Nat.lt_of_lt_of_le hl0 hb6.size
  replace hl1 := Nat.lt_of_lt_of_le hl1 hb6.size
  (try replace HA := Lib.hid (HA.out.below hb6))
  (try replace HE := Lib.hid (HE.out.below hb6))
  replace HBT := Lib.hid (bthen HBT.out hb6 (Nat.le_refl _))
  (try clear a0 a1 a2 a3 b0 b1 b2 b3)
  obtain ⟨a0, a1, a2, a3⟩ := H1.out.zero
  obtain ⟨b0, b1, b2, b3⟩ := H2.out.zero
  simp only [one, two] at a0 a1 a2 a3 b0 b1 b2 b3
  clear hb6
  go_wp2_with (go_at_call 16; refine (Nums.num_any _ _).mono ?_; rintro e w' ⟨rfl, rfl⟩)
  go_ret
  exact ⟨rfl, HBT.out⟩
end Go.Proofs.Ytmoabfaimcafjaa.Words
