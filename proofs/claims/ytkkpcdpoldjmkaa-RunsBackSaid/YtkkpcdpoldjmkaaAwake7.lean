/-
  CUT AND JOIN AS THEIR CALLERS WANT THEM; the walk of boathouselaw7.awake.
-/
import Derived.Test.YtkkpcdpoldjmkaaJoinR
import Derived.Test.YtkkpcdpoldjmkaaMem
import Derived.Test.YtkkpcdpoldjmkaaNamesWalks
namespace Go.Proofs.Ytkkpcdpoldjmkaa.Runs
open Go.RowKit ValMath Vals Sl Mem

/-- Runs as they were handed back. -/
structure GotRuns (w : World) (B : Nat) (A1 A2 : Option Addr) (m c1 c2 : Nat) (acc : List (Nat × Val)) : Prop where
  own1 : OwnI w B (.slice A1 m c1) (counts acc)
  own2 : OwnV w B (.slice A2 m c2) (vals acc)
  len : acc.length = m
theorem GotRuns.below {w w' : World} {B m c1 c2 : Nat} {A1 A2 : Option Addr} {acc : List (Nat × Val)} (h : GotRuns w B A1 A2 m c1 c2 acc) (hb : Below w.heap.size w w') : GotRuns w' B A1 A2 m c1 c2 acc := ⟨h.own1.below hb, h.own2.below hb, h.len⟩
theorem GotRuns.sl1 {w : World} {B m c1 c2 : Nat} {A1 A2 : Option Addr} {acc : List (Nat × Val)} (h : GotRuns w B A1 A2 m c1 c2 acc) : ISl w A1 m (counts acc) := h.own1.sl (by rw [counts_length, h.len])
theorem GotRuns.sl2 {w : World} {B m c1 c2 : Nat} {A1 A2 : Option Addr} {acc : List (Nat × Val)} (h : GotRuns w B A1 A2 m c1 c2 acc) : VSl w A2 m (vals acc) := h.own2.sl (by rw [vals_length, h.len])
theorem got_of {w : World} {B : Nat} {u1 u2 : Value} {acc : List (Nat × Val)} (h1 : OwnI w B u1 (counts acc)) (h2 : OwnV w B u2 (vals acc)) :
    ∃ A1 c1 A2 c2, u1 = .slice A1 acc.length c1 ∧ u2 = .slice A2 acc.length c2 ∧ GotRuns w B A1 A2 acc.length c1 c2 acc := by
  obtain ⟨A1, c1, rfl, _⟩ := h1.form (n := acc.length) (counts_length acc)
  obtain ⟨A2, c2, rfl, _⟩ := h2.form' (n := acc.length) (vals_length acc)
  exact ⟨A1, c1, A2, c2, rfl, rfl, h1, h2, rfl⟩

theorem cut_got (A : Option Addr) (n c : Nat) (vs : List Val) (w : World) (hv : VSl w A n vs) (hn : n * 40 ≤ 140737488355280) (m : Nat) (hm : (cut vs).length = m) :
    Calls Try.prog 60 #[.slice A n c] w fun e w' => ∃ A1 c1 A2 c2, e = .returned (.tuple #[.slice A1 m c1, .slice A2 m c2]) ∧ GotRuns w' w.heap.size A1 A2 m c1 c2 (cut vs) ∧ Below w.heap.size w w' := by
  refine (cut_any A n c vs w hv hn).mono ?_
  rintro e w' ⟨u1, u2, rfl, h1, h2, hb⟩
  obtain ⟨A1, c1, A2, c2, rfl, rfl, hg⟩ := got_of h1 h2
  subst hm
  exact ⟨A1, c1, A2, c2, rfl, hg, hb⟩
theorem cutR_got (A : Option Addr) (n c : Nat) (vs : List Val) (w : World) (hv : VSl w A n vs) (hn : n * 40 ≤ 140737488355280) (hs : ∀ v ∈ vs, v.s.size ≤ maxLen) (m : Nat) (hm : (cut vs).length = m) :
    Calls Try.prog 61 #[.slice A n c] w fun e w' => ∃ A1 c1 A2 c2, e = .returned (.tuple #[.slice A1 m c1, .slice A2 m c2]) ∧ GotRuns w' w.heap.size A1 A2 m c1 c2 (cut vs) ∧ Below w.heap.size w w' := by
  refine (cutR_any A n c vs w hv hn hs).mono ?_
  rintro e w' ⟨u1, u2, rfl, h1, h2, hb⟩
  obtain ⟨A1, c1, A2, c2, rfl, rfl, hg⟩ := got_of h1 h2
  subst hm
  exact ⟨A1, c1, A2, c2, rfl, hg, hb⟩

/-- Values as they were handed back. -/
structure GotV (w : World) (B : Nat) (A : Option Addr) (m c : Nat) (vs : List Val) : Prop where
  own : OwnV w B (.slice A m c) vs
  len : vs.length = m
theorem GotV.below {w w' : World} {B m c : Nat} {A : Option Addr} {vs : List Val} (h : GotV w B A m c vs) (hb : Below w.heap.size w w') : GotV w' B A m c vs := ⟨h.own.below hb, h.len⟩
theorem GotV.sl {w : World} {B m c : Nat} {A : Option Addr} {vs : List Val} (h : GotV w B A m c vs) : VSl w A m vs := h.own.sl h.len
theorem gotV_of {w : World} {B m : Nat} {u : Value} {vs : List Val} (h : OwnV w B u vs) (hm : vs.length = m) : ∃ A c, u = .slice A m c ∧ GotV w B A m c vs := by
  obtain ⟨A, c, rfl, _⟩ := h.form' hm
  exact ⟨A, c, rfl, h, hm⟩
theorem join_got (A C : Option Addr) (n m c d : Nat) (xs : List Int) (vs : List Val) (w : World) (hx : ISl w A n xs) (hv : VSl w C m vs) (hn : n ≤ 140737488351232) (hm : m ≤ 140737488351232) (q : Nat) (hq : (joinVals xs vs).length = q) (cd : Int) (hcd : joinCode xs vs = cd) :
    Calls Try.prog 62 #[.slice A n c, .slice C m d] w fun e w' => ∃ A1 c1, e = .returned (.tuple #[.slice A1 q c1, .int .i64 cd]) ∧ GotV w' w.heap.size A1 q c1 (joinVals xs vs) ∧ Below w.heap.size w w' := by
  refine (join_any A C n m c d xs vs w hx hv hn hm).mono ?_
  rintro e w' ⟨u, rfl, h1, hb⟩
  obtain ⟨A1, c1, rfl, hg⟩ := gotV_of h1 hq
  exact ⟨A1, c1, by rw [hcd], hg, hb⟩
theorem joinR_got (A C : Option Addr) (n m c d : Nat) (xs : List Int) (vs : List Val) (w : World) (hx : ISl w A n xs) (hv : VSl w C m vs) (hn : n ≤ 140737488351232) (hm : m ≤ 140737488351232) (hs : ∀ v ∈ vs, v.s.size ≤ maxLen) (q : Nat) (hq : (joinVals xs vs).length = q) (cd : Int) (hcd : joinCode xs vs = cd) :
    Calls Try.prog 63 #[.slice A n c, .slice C m d] w fun e w' => ∃ A1 c1, e = .returned (.tuple #[.slice A1 q c1, .int .i64 cd]) ∧ GotV w' w.heap.size A1 q c1 (joinVals xs vs) ∧ Below w.heap.size w w' := by
  refine (joinR_any A C n m c d xs vs w hx hv hn hm hs).mono ?_
  rintro e w' ⟨u, rfl, h1, hb⟩
  obtain ⟨A1, c1, rfl, hg⟩ := gotV_of h1 hq
  exact ⟨A1, c1, by rw [hcd], hg, hb⟩

def one : Val := ⟨1, 1, false, ByteArray.empty⟩
def two : Val := ⟨3, 0, false, { data := #[97] }⟩
theorem cut_awake : cut [one, one, two] = [(2, one), (1, two)] := by decide
theorem join_awake1 : joinVals [2, 1] [one, two] = [one, one, two] ∧ joinCode [2, 1] [one, two] = 0 := by decide
theorem join_awake2 : joinVals [0] [one] = [] ∧ joinCode [0] [one] = 700 := by decide
theorem true_of {p : Prop} [Decidable p] {w w' : World} {e : Ending} {b : Bool} (hp : decide p = b) (h : e = .returned (.bool (decide p)) ∧ ∃ k, w' = w.drewN k) : e = .returned (.bool b) ∧ Below w.heap.size w w' := by
  obtain ⟨rfl, k, rfl⟩ := h; rw [hp]; exact ⟨rfl, below_drewN (Below.refl _ _) k⟩

set_option maxRecDepth 20000 in
set_option maxHeartbeats 2000000 in
theorem awake_any (w : World) : Calls Try.prog 70 #[] w fun e w' => e = .returned (.bool true) ∧ Below w.heap.size w w' := by
  go_enter Try.func70, Try.ntmps70
  go_wp2_with fail
  refine (cut_got _ 3 3 [one, one, two] _ (VSl.at3 _ _ (by simp) one one two _) (by omega) 2 (by rw [cut_awake]; rfl)).mono ?_
  rintro e w1 ⟨A1, c1, A2, c2, rfl, hg1, hb1⟩
  have k1 : At4 w1 w.heap.size 0 one := (((At4.new w _ rfl one _).alloc (by simp) _).alloc (by simp; omega) _).below hb1 (by simp; omega)
  have k2 : At4 w1 (w.heap.size + 1) 0 two := ((At4.new (w.alloc _) _ (by simp) two _).alloc (by simp) _).below hb1 (by simp)
  have hz1 := hb1.size
  simp only [World.size_alloc] at hz1
  have hl0 : w.heap.size < w1.heap.size := by omega
  have hl1 : w.heap.size + 1 < w1.heap.size := by omega
  have HB1 := Lib.hid hb1; clear hb1
  have HK := Lib.hid (And.intro k1 (And.intro k2 hg1)); clear hg1
  obtain ⟨a0, a1, a2, a3⟩ := k1.zero
  obtain ⟨b0, b1, b2, b3⟩ := k2.zero
  simp only [one, two] at a0 a1 a2 a3 b0 b1 b2 b3
  clear k1 k2
  go_wp2_with fail
  refine (join_got _ _ 2 2 2 2 [2, 1] [one, two] _ ((ISl.at_new _ _ (by simp) [2, 1] _ _ rfl).alloc _) (VSl.at2 _ _ (by simp) one two _) (by omega) (by omega) 3 (by rw [join_awake1.1]; rfl) 0 join_awake1.2).mono ?_
  rintro e w2 ⟨A3, c3, rfl, hg2, hb2⟩
  have k1 := (HK.out.1.alloc hl0 (.cells #[.int .i64 2, .int .i64 1] 3)).alloc (by simp; omega) (.cells #[.int .i64 one.k, .int .i64 one.i, .bool one.b, .string one.s, .int .i64 two.k, .int .i64 two.i, .bool two.b, .string two.s] 52) |>.below hb2 (by simp; omega)
  have k2 := (HK.out.2.1.alloc hl1 (.cells #[.int .i64 2, .int .i64 1] 3)).alloc (by simp; omega) (.cells #[.int .i64 one.k, .int .i64 one.i, .bool one.b, .string one.s, .int .i64 two.k, .int .i64 two.i, .bool two.b, .string two.s] 52) |>.below hb2 (by simp; omega)
  have hz2 := hb2.size
  simp only [World.size_alloc] at hz2
  have hl2 : w.heap.size < w2.heap.size := by omega
  have hl3 : w.heap.size + 1 < w2.heap.size := by omega
  have g1 := ((HK.out.2.2.below (Vals.two_new _ _)).below hb2)
  have HK2 := Lib.hid (And.intro k1 (And.intro k2 (And.intro g1 hg2))); clear hg2 g1
  have HB2 := Lib.hid hb2; clear hb2 a0 a1 a2 a3 b0 b1 b2 b3 HK
  obtain ⟨a0, a1, a2, a3⟩ := k1.zero
  obtain ⟨b0, b1, b2, b3⟩ := k2.zero
  simp only [one, two] at a0 a1 a2 a3 b0 b1 b2 b3
  clear k1 k2
  go_wp2_with fail
  refine (join_got _ _ 1 1 1 1 [0] [one] _ ((ISl.at_new _ _ (by simp) [0] _ _ rfl).alloc _) (VSl.at1 _ _ (by simp) one _) (by omega) (by omega) 0 (by rw [join_awake2.1]; rfl) 700 join_awake2.2).mono ?_
  rintro e w3 ⟨A4, c4, rfl, hg3, hb3⟩
  have k1 := (HK2.out.1.alloc hl2 (.cells #[.int .i64 0] 3)).alloc (by simp; omega) (.cells #[.int .i64 one.k, .int .i64 one.i, .bool one.b, .string one.s] 52) |>.below hb3 (by simp; omega)
  have k2 := (HK2.out.2.1.alloc hl3 (.cells #[.int .i64 0] 3)).alloc (by simp; omega) (.cells #[.int .i64 one.k, .int .i64 one.i, .bool one.b, .string one.s] 52) |>.below hb3 (by simp; omega)
  have hz3 := hb3.size
  simp only [World.size_alloc] at hz3
  have hl4 : w.heap.size < w3.heap.size := by omega
  have hl5 : w.heap.size + 1 < w3.heap.size := by omega
  have g1 := ((HK2.out.2.2.1.below (Vals.two_new _ _)).below hb3)
  have g2 := ((HK2.out.2.2.2.below (Vals.two_new _ _)).below hb3)
  have HK3 := Lib.hid (And.intro k1 (And.intro k2 (And.intro g1 g2))); clear hg3 g1 g2
  have hbt : Below w.heap.size w w3 := bthen (bthen (bthen (Vals.three_new _ _ _) HB1.out (Nat.le_refl _)) ((Vals.two_new _ _).trans (HB2.out.mono (by simp; omega))) (Nat.le_refl _)) ((Vals.two_new _ _).trans (hb3.mono (by simp; omega))) (Nat.le_refl _)
  clear a0 a1 a2 a3 b0 b1 b2 b3 HK2 HB1 HB2 hb3 hl0 hl1 hl2 hl3
  obtain ⟨a0, a1, a2, a3⟩ := k1.zero
  obtain ⟨b0, b1, b2, b3⟩ := k2.zero
  simp only [one, two] at a0 a1 a2 a3 b0 b1 b2 b3
  clear k1 k2
  go_wp2_with fail
  refine (sameInts_any _ _ 2 2 _ _ [2, 1] [2, 1] _ ((show ISl w3 A1 2 [2, 1] from by have := HK3.out.2.2.1.sl1; rw [cut_awake] at this; exact this).alloc _) (ISl.at_new _ _ (by simp) [2, 1] _ _ rfl) (by unfold maxLen; omega)).mono ?_
  rintro e w4 ⟨rfl, q4, rfl⟩
  go_wp2_with fail
  refine (sameValues_any _ _ 2 2 _ _ [one, two] [one, two] _ (((show VSl w3 A2 2 [one, two] from by have := HK3.out.2.2.1.sl2; rw [cut_awake] at this; exact this).alloc _).drewN _ |>.alloc _) (VSl.at2 _ _ (by simp) one two _) (by unfold maxLen; omega)).mono ?_
  rintro e w5 ⟨rfl, q5, rfl⟩
  go_wp2_with (go_at_call 56; refine (boathouseNames.num_any _ _).mono ?_; rintro e w' ⟨rfl, rfl⟩)
  refine (sameValues_any _ _ 3 3 _ _ [one, one, two] [one, one, two] _ ?_ (VSl.at3 _ _ (by simp) one one two _) (by unfold maxLen; omega)).mono ?_
  · have h := HK3.out.2.2.2.sl
    rw [join_awake1.1] at h
    exact (((h.alloc _).drewN _).alloc _ |>.drewN _).alloc _
  rintro e w6 ⟨rfl, q6, rfl⟩
  go_wp2_with (go_at_call 56; refine (boathouseNames.num_any _ _).mono ?_; rintro e w' ⟨rfl, rfl⟩)
  go_ret
  exact ⟨rfl, below_drewN ((below_drewN ((below_drewN (hbt.alloc hbt.size _) _).alloc (by simp; omega) _) _).alloc (by simp; omega) _) _⟩
end Go.Proofs.Ytkkpcdpoldjmkaa.Runs
