/-
  Lemmas of this claim, text behind text: Base, Bytes, Vals, VSl, Sl, SlD, Own, Push, Bits, VarProg, BitProg. Each states its own conditions.
-/
import Derived.Test.YtgmemdedpklnhaaGreatRows
import Derived.WalkKit
import Derived.WalkSpells
import Derived.WalkLawsBesides
import Derived.Handy
import Derived.Lib.Hide
import Derived.Lib.Strings
import Derived.Laws.BytesArg
import Derived.Laws.CopyOwn
import Derived.Deep.WholeRow
import Derived.Deep.QuietTactic
import Derived.BigQuiet
import Derived.Deep.Slices
import Derived.Deep.Fields
import Derived.SizedLaws
import Derived.ProofKit
import Derived.OpenShut
import Derived.Lib.SmallJoins
import Derived.Deep.AppendLies
import Derived.Deep.RegionLaw
import Derived.Deep.RegionHeld3
import Derived.Deep.DeepCutAuto
import Derived.Laws.AppendOwnNone
import Derived.Maps.AppendAt
import Derived.Laws.Shifts
import Derived.Test.YtgmemdedpklnhaaGreatPart01
import Derived.Test.YtgmemdedpklnhaaGreatPart02

/-
  SMALL COMMON LEMMAS for the walks: endings, bytes of strings, new blocks.
-/












namespace Go.Proofs.YtgmemdedpklnhaaGreat
open Go.RowKit

theorem ret_int {k : IntKind} {a b : Int} (h : a = b) : Ending.returned (.int k a) = .returned (.int k b) := by rw [h]
theorem ret_str {a b : ByteArray} (h : a = b) : Ending.returned (.string a) = .returned (.string b) := by rw [h]
theorem ret_bool {a b : Bool} (h : a = b) : Ending.returned (.bool a) = .returned (.bool b) := by rw [h]

/-- More than the form lets any string be (the reach is 2^47 - 4096 bytes). -/
def maxReach : Nat := 1125899906842624
/-- A string of these bytes. -/
def str (l : List UInt8) : ByteArray := ⟨l.toArray⟩
@[simp] theorem str_toList (l : List UInt8) : (str l).data.toList = l := rfl
theorem str_size (l : List UInt8) : (str l).size = l.length := by simp [str, ByteArray.size]
theorem str_self (s : ByteArray) : str s.data.toList = s := rfl
theorem str_eq {l : List UInt8} {s : ByteArray} (h : s.data.toList = l) : s = str l := by subst h; rfl

theorem take_snoc (s : ByteArray) (k : Nat) (h : k < s.size) : s.data.toList.take (k + 1) = s.data.toList.take k ++ [s[k]] := by
  rw [List.take_succ_eq_append_getElem (by simpa using h)]; rfl

/-! Bits of unsigned numbers that are casts. -/
theorem ofInt_u32 (a : Nat) (ha : a < 4294967296) : (BitVec.ofInt 32 (a : Int)).toNat = a := by
  rw [BitVec.ofInt_natCast, BitVec.toNat_ofNat]; exact Nat.mod_eq_of_lt (by omega)
theorem xor_u32 (a b : Nat) (ha : a < 4294967296) (hb : b < 4294967296) : bits .xor .u32 (a : Int) (b : Int) = ((a ^^^ b : Nat) : Int) := by
  have hx : a ^^^ b < 2 ^ 32 := Nat.xor_lt_two_pow (by omega) (by omega)
  show IntKind.u32.wrap ((BitVec.ofInt 32 (a : Int) ^^^ BitVec.ofInt 32 (b : Int)).toNat : Int) = _
  rw [BitVec.toNat_xor, ofInt_u32 a ha, ofInt_u32 b hb, IntKind.wrap_u32]
  omega

theorem and1_u32 (a : Nat) (ha : a < 4294967296) : bits .and .u32 (a : Int) 1 = ((a % 2 : Nat) : Int) := by
  show IntKind.u32.wrap ((BitVec.ofInt 32 (a : Int) &&& BitVec.ofInt 32 (1 : Int)).toNat : Int) = _
  rw [BitVec.toNat_and, ofInt_u32 a ha, show (BitVec.ofInt 32 (1 : Int)).toNat = 1 from rfl, IntKind.wrap_u32, Nat.and_one_is_mod]
  omega

theorem ofInt_u8 (a : Nat) (ha : a < 256) : (BitVec.ofInt 8 (a : Int)).toNat = a := by
  rw [BitVec.ofInt_natCast, BitVec.toNat_ofNat]; exact Nat.mod_eq_of_lt (by omega)
theorem xor_u8 (a b : Nat) (ha : a < 256) (hb : b < 256) : bits .xor .u8 (a : Int) (b : Int) = ((a ^^^ b : Nat) : Int) := by
  have hx : a ^^^ b < 2 ^ 8 := Nat.xor_lt_two_pow (by omega) (by omega)
  show IntKind.u8.wrap ((BitVec.ofInt 8 (a : Int) ^^^ BitVec.ofInt 8 (b : Int)).toNat : Int) = _
  rw [BitVec.toNat_xor, ofInt_u8 a ha, ofInt_u8 b hb, IntKind.wrap_u8]
  omega
theorem heap_setRow_same (w : World) (g : Nat) (old cs : Array Value) (t : TypeId) (f : Nat × Nat) (hg : w.heap[g]? = some (.cells old t f)) : (w.setRow g cs).heap[g]? = some (.cells cs t f) := by
  simp [World.setRow, Array.getElem?_modify, hg]
theorem ofInt_i64 (a : Nat) (ha : a < 9223372036854775808) : (BitVec.ofInt 64 (a : Int)).toNat = a := by
  rw [BitVec.ofInt_natCast, BitVec.toNat_ofNat]; exact Nat.mod_eq_of_lt (by omega)
theorem and_i64 (a b : Nat) (ha : a < 9223372036854775808) (hb : b < 9223372036854775808) : bits .and .i64 (a : Int) (b : Int) = ((a &&& b : Nat) : Int) := by
  have hx : a &&& b < 2 ^ 63 := Nat.and_lt_two_pow _ (by omega)
  show IntKind.i64.wrap ((BitVec.ofInt 64 (a : Int) &&& BitVec.ofInt 64 (b : Int)).toNat : Int) = _
  rw [BitVec.toNat_and, ofInt_i64 a ha, ofInt_i64 b hb, IntKind.wrap_i64]
  omega
theorem and255_i64 (a : Nat) (ha : a < 9223372036854775808) : bits .and .i64 (a : Int) 255 = (a : Int) % 256 := by
  rw [show (255 : Int) = ((255 : Nat) : Int) from rfl, and_i64 a 255 ha (by omega), show (255 : Nat) = 2 ^ 8 - 1 from rfl, Nat.and_two_pow_sub_one_eq_mod]
  omega

theorem toNat_ofInt64 (c : Int) : (BitVec.ofInt 64 c).toNat = (c % 18446744073709551616).toNat := by
  rw [BitVec.toNat_ofInt]; rfl
theorem and_mask_i64 (c : Int) (n : Nat) (hn : n < 63) : bits .and .i64 c ((2 ^ n - 1 : Nat) : Int) = c % ((2 ^ n : Nat) : Int) := by
  have hp : 2 ^ n < 2 ^ 63 := Nat.pow_lt_pow_right (by omega) hn
  have hp0 : 0 < 2 ^ n := Nat.pow_pos (by omega)
  show IntKind.i64.wrap ((BitVec.ofInt 64 c &&& BitVec.ofInt 64 ((2 ^ n - 1 : Nat) : Int)).toNat : Int) = _
  rw [BitVec.toNat_and, ofInt_i64 _ (by omega), toNat_ofInt64, Nat.and_two_pow_sub_one_eq_mod, IntKind.wrap_i64]
  have h0 : 0 ≤ c % 18446744073709551616 := Int.emod_nonneg _ (by omega)
  have hdvd : ((2 ^ n : Nat) : Int) ∣ 18446744073709551616 := by
    refine ⟨((2 ^ (64 - n) : Nat) : Int), ?_⟩
    rw [← Int.natCast_mul, ← Nat.pow_add, show n + (64 - n) = 64 by omega]; rfl
  have e1 : (((c % 18446744073709551616).toNat % 2 ^ n : Nat) : Int) = c % ((2 ^ n : Nat) : Int) := by
    rw [Int.natCast_emod, Int.toNat_of_nonneg h0, Int.emod_emod_of_dvd _ hdvd]
  rw [e1]
  have h1 : 0 ≤ c % ((2 ^ n : Nat) : Int) := Int.emod_nonneg _ (by omega)
  have h2 : c % ((2 ^ n : Nat) : Int) < ((2 ^ n : Nat) : Int) := Int.emod_lt_of_pos _ (by omega)
  omega
theorem xor_i64 (a b : Nat) (ha : a < 9223372036854775808) (hb : b < 9223372036854775808) : bits .xor .i64 (a : Int) (b : Int) = ((a ^^^ b : Nat) : Int) := by
  have hx : a ^^^ b < 2 ^ 63 := Nat.xor_lt_two_pow (by omega) (by omega)
  show IntKind.i64.wrap ((BitVec.ofInt 64 (a : Int) ^^^ BitVec.ofInt 64 (b : Int)).toNat : Int) = _
  rw [BitVec.toNat_xor, ofInt_i64 a ha, ofInt_i64 b hb, IntKind.wrap_i64]
  omega
theorem or_i64 (a b : Nat) (ha : a < 9223372036854775808) (hb : b < 9223372036854775808) : bits .or .i64 (a : Int) (b : Int) = ((a ||| b : Nat) : Int) := by
  have hx : a ||| b < 2 ^ 63 := Nat.or_lt_two_pow (by omega) (by omega)
  show IntKind.i64.wrap ((BitVec.ofInt 64 (a : Int) ||| BitVec.ofInt 64 (b : Int)).toNat : Int) = _
  rw [BitVec.toNat_or, ofInt_i64 a ha, ofInt_i64 b hb, IntKind.wrap_i64]
  omega

/-! Slices of bytes made by the call, as strings. -/
theorem str_nums (xs : List Int) : strOfNums xs = str (xs.map fun n => UInt8.ofNat n.toNat) := rfl
section
variable {P : Program} (src dst e : TypeId) (hs : P.underlying src = some (.slice e)) (he : P.underlying e = some (.int .u8)) (hd : P.underlying dst = some .string)
include hs he hd
theorem run_str_row (W : World) (xs : List Int) (k : Nat) (n c : Nat) (hn : xs.length = n) (hk : k = W.heap.size) :
    (convert src dst (.slice (some ⟨k, 0, none⟩) n c)).run P (W.alloc (.cells (xs.map (Value.int .u8)).toArray e)) = .ok (.string (strOfNums xs)) (W.alloc (.cells (xs.map (Value.int .u8)).toArray e)) := by
  subst hk
  refine run_convert_bytes_arg _ src e hs he _ 0 n c xs hn (fun i hi => ?_) dst hd
  rw [World.cell?_alloc_at _ _ _ _ rfl]
  simp [List.getElem?_eq_getElem (show i < xs.length by omega)]
theorem run_str1 (W : World) (c : Nat) (x0 : Int) :
    (convert src dst (.slice (some ⟨W.heap.size, 0, none⟩) 1 c)).run P (W.alloc (.cells #[.int .u8 x0] e)) = .ok (.string (strOfNums [x0])) (W.alloc (.cells #[.int .u8 x0] e)) :=
  run_str_row src dst e hs he hd W [x0] _ 1 c rfl rfl
theorem run_str2 (W : World) (c : Nat) (x0 x1 : Int) :
    (convert src dst (.slice (some ⟨W.heap.size, 0, none⟩) 2 c)).run P (W.alloc (.cells #[.int .u8 x0, .int .u8 x1] e)) = .ok (.string (strOfNums [x0, x1])) (W.alloc (.cells #[.int .u8 x0, .int .u8 x1] e)) :=
  run_str_row src dst e hs he hd W [x0, x1] _ 2 c rfl rfl
theorem run_str3 (W : World) (c : Nat) (x0 x1 x2 : Int) :
    (convert src dst (.slice (some ⟨W.heap.size, 0, none⟩) 3 c)).run P (W.alloc (.cells #[.int .u8 x0, .int .u8 x1, .int .u8 x2] e)) = .ok (.string (strOfNums [x0, x1, x2])) (W.alloc (.cells #[.int .u8 x0, .int .u8 x1, .int .u8 x2] e)) :=
  run_str_row src dst e hs he hd W [x0, x1, x2] _ 3 c rfl rfl
theorem run_str4 (W : World) (c : Nat) (x0 x1 x2 x3 : Int) :
    (convert src dst (.slice (some ⟨W.heap.size, 0, none⟩) 4 c)).run P (W.alloc (.cells #[.int .u8 x0, .int .u8 x1, .int .u8 x2, .int .u8 x3] e)) = .ok (.string (strOfNums [x0, x1, x2, x3])) (W.alloc (.cells #[.int .u8 x0, .int .u8 x1, .int .u8 x2, .int .u8 x3] e)) :=
  run_str_row src dst e hs he hd W [x0, x1, x2, x3] _ 4 c rfl rfl
end

theorem sz1 (x0 : Int) : (strOfNums [x0]).size = 1 := rfl
theorem sz2 (x0 x1 : Int) : (strOfNums [x0, x1]).size = 2 := rfl
theorem sz3 (x0 x1 x2 : Int) : (strOfNums [x0, x1, x2]).size = 3 := rfl
theorem sz4 (x0 x1 x2 x3 : Int) : (strOfNums [x0, x1, x2, x3]).size = 4 := rfl
theorem u8_of {n : Int} {m : Nat} (h : n.toNat % 256 = m % 256) : UInt8.ofNat n.toNat = UInt8.ofNat m := by
  apply UInt8.toNat_inj.1; rw [UInt8.toNat_ofNat', UInt8.toNat_ofNat']; exact h
theorem teq_true {a b : ByteArray} (h : a.data.toList = b.data.toList) : (a.toList == b.toList) = true := by
  rw [Lib.toList_data, Lib.toList_data, h]; simp
theorem teq_false {a b : ByteArray} (h : ¬ a.data.toList = b.data.toList) : (a.toList == b.toList) = false := by
  rw [Lib.toList_data, Lib.toList_data]; simpa using h
theorem append_toList (a b : ByteArray) : (a ++ b).data.toList = a.data.toList ++ b.data.toList := by simp

theorem below_drewN {B : Nat} {a w : World} (h : Below B a w) (n : Nat) : Below B a (w.drewN n) := ⟨h.os, h.tape, h.output, h.size, h.block⟩

theorem bthen {a b c : World} {B : Nat} (h1 : Below B a b) (h2 : Below b.heap.size b c) (hB : B ≤ a.heap.size) : Below B a c := h1.trans (h2.mono (Nat.le_trans hB h1.size))

theorem bcell {W w1 : World} {B : Nat} (hb : Below B W w1) : (∀ b o, b < B → w1.cell? ⟨b, o, none⟩ = W.cell? ⟨b, o, none⟩) ∧ (∀ b o, b < B → w1.frozen? ⟨b, o, none⟩ = W.frozen? ⟨b, o, none⟩) :=
  ⟨fun b o h => hb.cell (p := ⟨b, o, none⟩) h, fun b o h => hb.frozen (p := ⟨b, o, none⟩) h⟩

end Go.Proofs.YtgmemdedpklnhaaGreat

/-
  LAWS AT THE OPERATION for conversions between strings and slices of bytes: whatever program.
-/

namespace Go.Proofs.YtgmemdedpklnhaaGreat
open Go.RowKit

/-- A byte's value. -/
def bv (b : UInt8) : Value := .int .u8 (b.toNat : Int)

/-- Byte j of a list as a number; 0 beyond. -/
def byteAt (l : List UInt8) (j : Nat) : Nat := (l.getD j 0).toNat
theorem byteAt_lt (l : List UInt8) (j : Nat) : byteAt l j < 256 := (l.getD j 0).toNat_lt
theorem byteAt_get (l : List UInt8) (j : Nat) (h : j < l.length) : byteAt l j = l[j].toNat := by
  unfold byteAt; rw [List.getD_eq_getElem?_getD, List.getElem?_eq_getElem h]; rfl
theorem byteAt_set (l : List UInt8) (k j : Nat) (b : UInt8) (h : k < l.length) : byteAt (l.set k b) j = if j = k then b.toNat else byteAt l j := by
  unfold byteAt
  rw [List.getD_eq_getElem?_getD, List.getD_eq_getElem?_getD, List.getElem?_set]
  by_cases hj : j = k
  · subst hj; simp [h]
  · rw [if_neg (fun e => hj e.symm), if_neg hj]

section
variable {P : Program} {w : World} {ops : Array Oper} {rest : List Oper} {o : Oper} {a : Act} {Q : Exit → Act → World → Prop}

theorem add_none (g j : Nat) : (⟨g, 0, none⟩ : Addr).add j = ⟨g, j, none⟩ := by unfold Addr.add; split <;> simp_all

/-- '[]byte(s)'. -/
theorem wpList_to_bytes (hgd : o.guard = none) (src dst e : TypeId) (x : Operand) (ho : o.op = .convert src dst x) (s : ByteArray) (hx : a.eval x = .string s)
    (hs : P.underlying src = some .string) (hd : P.underlying dst = some (.slice e)) (he : P.underlying e = some (.int .u8))
    (h : ∀ (c : Nat) (W : World), s.size ≤ c → (∀ j, j < s.size → W.cell? ⟨w.heap.size, j, none⟩ = some (.int .u8 (byteAt s.data.toList j : Int))) → (∀ j, j < s.size → W.frozen? ⟨w.heap.size, j, none⟩ = false) →
      Below w.heap.size w W → W.heap.size = w.heap.size + 1 → wpList P ops Q rest (a.put o.dst (.slice (some ⟨w.heap.size, 0, none⟩) s.size c)) W) : wpList P ops Q (o :: rest) a w := by
  refine wpList_plain hgd fun K hK => ?_
  unfold Oper.wp execOp
  simp only [ho, hx, Sem.run_bind, Result.andThen_ok, run_bytes_of_string w src dst e s hs hd he, Sem.run_pure]
  have hc := grownCap_ge w s.size 0 e
  refine hK _ _ (h (grownCap w s.size 0 e) _ hc (fun j hj => ?_) (fun j hj => ?_) ?_ ?_)
  · rw [show w.heap.size = w.drew.heap.size from rfl, World.cell?_alloc_mark, bytesRow_at s _ j hj]
    congr 3
    rw [byteAt_get _ _ (by simpa using hj)]
    rfl
  · rw [show w.heap.size = w.drew.heap.size from rfl, World.frozen?_alloc_mark]
    have : (bytesRow s (grownCap w s.size 0 e)).size = s.size + (grownCap w s.size 0 e - s.size) := by
      unfold bytesRow; rw [Array.size_append, Array.size_map, Array.size_replicate]; rfl
    rw [this]
    have h1 : decide (s.size + (grownCap w s.size 0 e - s.size) ≤ j) = false := decide_eq_false (by omega)
    rw [h1]; rfl
  · exact (Below.refl _ _).drew.alloc (Nat.le_refl _) _
  · simp

/-- 'string(b)' where b's cells are the bytes l. -/
theorem wpList_to_string (hgd : o.guard = none) (src dst e : TypeId) (x : Operand) (ho : o.op = .convert src dst x) (g : Nat) (l : List UInt8) (n c : Nat) (hx : a.eval x = .slice (some ⟨g, 0, none⟩) n c) (hn : l.length = n)
    (hs : P.underlying src = some (.slice e)) (he : P.underlying e = some (.int .u8)) (hd : P.underlying dst = some .string)
    (hc : ∀ j, j < n → w.cell? ⟨g, j, none⟩ = some (.int .u8 (byteAt l j : Int)))
    (h : wpList P ops Q rest (a.put o.dst (.string (str l))) w) : wpList P ops Q (o :: rest) a w := by
  subst hn
  refine wpList_plain hgd fun K hK => ?_
  unfold Oper.wp execOp
  simp only [ho, hx, Sem.run_bind, Result.andThen_ok, Sem.run_pure, run_convert_bytes_back w src dst e ⟨g, 0, none⟩ c l hs he hd (fun j hj => by
    rw [add_none, hc j hj, byteAt_get l j hj])]
  exact hK _ _ h

/-- 'string(b)' where the call owns b's bytes. -/
theorem wpList_own_string (hgd : o.guard = none) (src dst e : TypeId) (x : Operand) (ho : o.op = .convert src dst x) (v : Value) (hx : a.eval x = v) (base : Nat) (l : List UInt8)
    (hown : w.ownsRow base e 1 v l.length (l.map bv))
    (hs : P.underlying src = some (.slice e)) (he : P.underlying e = some (.int .u8)) (hd : P.underlying dst = some .string)
    (h : wpList P ops Q rest (a.put o.dst (.string (str l))) w) : wpList P ops Q (o :: rest) a w := by
  by_cases h0 : 0 < l.length
  · obtain ⟨g, c, hv⟩ : ∃ g c, v = .slice (some ⟨g, 0, none⟩) l.length c := by
      rcases hown.2 with ⟨_, hz⟩ | ⟨g, c, _, hv, _⟩
      · omega
      · exact ⟨g, c, hv⟩
    subst hv
    refine wpList_to_string hgd src dst e x ho g l _ c hx rfl hs he hd (fun j hj => ?_) h
    have := hown.cells (g := g) rfl j (bv (l.getD j 0)) (by
      rw [List.getElem?_map, List.getElem?_eq_getElem hj, List.getD_eq_getElem?_getD, List.getElem?_eq_getElem hj]; rfl)
    rw [add_none] at this
    exact this
  · have hl : l = [] := List.eq_nil_of_length_eq_zero (by omega)
    subst hl
    refine wpList_plain hgd fun K hK => ?_
    unfold Oper.wp execOp
    have hrun : (convert src dst v).run P w = .ok (.string (str [])) w := by
      rcases hown.2 with ⟨rfl, _⟩ | ⟨g, cap, cur, rfl, _⟩
      · exact run_convert_bytes_nil w src e hs he 0 0 dst hd
      · exact run_convert_bytes_back w src dst e ⟨g, 0, none⟩ cap [] hs he hd (fun j hj => by simp at hj)
    simp only [ho, hx, Sem.run_bind, Result.andThen_ok, Sem.run_pure, hrun]
    exact hK _ _ h
end
end Go.Proofs.YtgmemdedpklnhaaGreat

/-
  VALUES (api.Value) IN MEMORY: how a plain value stands in cells; the walks of runs.Plain, boathouseref7.kind, Clean, Cmp, Below and vec.Less.
-/


namespace Go.Proofs.YtgmemdedpklnhaaGreat
open Go.RowKit ValMath

/-- A value's cells. -/
def vcells (v : Val) : List Value := [.int .i64 v.k, .int .i64 v.i, .bool v.b, .string v.s]
/-- A value as it is handed on. -/
abbrev vagg (v : Val) : Value := .agg #[.int .i64 v.k, .int .i64 v.i, .bool v.b, .string v.s]

namespace Vals
theorem two_new {w : World} (o p : Obj) : Below w.heap.size w ((w.alloc o).alloc p) := ((Below.refl _ _).alloc (Nat.le_refl _) _).alloc (by simp) _
theorem one_new {w : World} (o : Obj) : Below w.heap.size w (w.alloc o) := (Below.refl _ _).alloc (Nat.le_refl _) _

set_option maxHeartbeats 1000000 in
theorem plain_any (v : Val) (w : World) :
    Calls Tryz.prog 71 #[vagg v] w fun e w' => e = .returned (vagg (clean v)) ∧ Below w.heap.size w w' := by
  obtain ⟨k, i, b, s⟩ := v
  by_cases h1 : k = 1
  · subst h1
    go_enter Tryz.func71, Tryz.ntmps71
    go_wp2
    go_returns
    exact ⟨rfl, two_new _ _⟩
  by_cases h2 : k = 2
  · subst h2
    go_enter Tryz.func71, Tryz.ntmps71
    go_wp2
    go_returns
    exact ⟨rfl, two_new _ _⟩
  by_cases h3 : k = 3
  · subst h3
    go_enter Tryz.func71, Tryz.ntmps71
    go_wp2
    go_returns
    exact ⟨rfl, two_new _ _⟩
  · have e : clean ⟨k, i, b, s⟩ = nul := by unfold clean; simp only [if_neg h1, if_neg h2, if_neg h3]
    rw [e]
    go_enter Tryz.func71, Tryz.ntmps71
    go_wp2
    go_returns
    exact ⟨rfl, two_new _ _⟩

/-- A value's kind; of none that there is: 0. -/
def kindOf (v : Val) : Int := if v.k < 0 ∨ 3 < v.k then 0 else v.k
theorem kindOf_clean (v : Val) : kindOf v = (clean v).k := by
  rw [clean_kind]; unfold kindOf
  by_cases h : v.k < 0 ∨ 3 < v.k
  · rw [if_pos h, if_neg (by omega)]
  · rw [if_neg h]
    by_cases h0 : v.k = 0
    · rw [if_neg (by omega), h0]
    · rw [if_pos (by omega)]

set_option maxHeartbeats 1000000 in
theorem kind_exact (v : Val) (w : World) :
    Calls Tryz.prog 95 #[vagg v] w fun e w' => e = .returned (.int .i64 (kindOf v)) ∧ w' = w.alloc (.cells #[.int .i64 v.k, .int .i64 v.i, .bool v.b, .string v.s] 71) := by
  obtain ⟨k, i, b, s⟩ := v
  unfold kindOf
  by_cases h1 : k < 0
  · rw [if_pos (.inl h1)]
    have hd : decide (k < 0) = true := decide_eq_true h1
    go_enter Tryz.func95, Tryz.ntmps95
    go_wp2
    go_ret
    exact ⟨rfl, rfl⟩
  · have hd : decide (k < 0) = false := decide_eq_false h1
    by_cases h2 : 3 < k
    · rw [if_pos (.inr h2)]
      go_enter Tryz.func95, Tryz.ntmps95
      go_wp2
      go_ret
      exact ⟨rfl, rfl⟩
    · rw [if_neg (by simp only []; omega)]
      go_enter Tryz.func95, Tryz.ntmps95
      go_wp2
      go_ret
      exact ⟨rfl, rfl⟩

theorem kind_any (v : Val) (w : World) :
    Calls Tryz.prog 95 #[vagg v] w fun e w' => e = .returned (.int .i64 (kindOf v)) ∧ Below w.heap.size w w' :=
  (kind_exact v w).mono fun _ _ ⟨he, hw⟩ => ⟨he, by rw [hw]; exact one_new _⟩

theorem three_new {w : World} (o p q : Obj) : Below w.heap.size w (((w.alloc o).alloc p).alloc q) := (two_new o p).alloc (by simp; omega) _

set_option maxHeartbeats 1000000 in
theorem clean_any (v : Val) (w : World) :
    Calls Tryz.prog 66 #[vagg v] w fun e w' => e = .returned (vagg (clean v)) ∧ Below w.heap.size w w' := by
  have hK := kind_exact v
  have hkc := kindOf_clean v
  rw [clean_kind] at hkc
  obtain ⟨k, i, b, s⟩ := v
  generalize kindOf ⟨k, i, b, s⟩ = q at hK hkc
  simp only [] at hkc hK
  by_cases h1 : k = 1
  · subst h1
    obtain rfl : q = 1 := by simpa using hkc
    have HK := Lib.hid hK; clear hK hkc
    go_enter Tryz.func66, Tryz.ntmps66
    go_wp2_with (go_at_call 95; with_reducible refine (HK.out _).mono ?_; rintro e w1 ⟨rfl, rfl⟩)
    go_returns
    exact ⟨rfl, three_new _ _ _⟩
  by_cases h2 : k = 2
  · subst h2
    obtain rfl : q = 2 := by simpa using hkc
    have HK := Lib.hid hK; clear hK hkc
    go_enter Tryz.func66, Tryz.ntmps66
    go_wp2_with (go_at_call 95; with_reducible refine (HK.out _).mono ?_; rintro e w1 ⟨rfl, rfl⟩)
    go_returns
    exact ⟨rfl, three_new _ _ _⟩
  by_cases h3 : k = 3
  · subst h3
    obtain rfl : q = 3 := by simpa using hkc
    have HK := Lib.hid hK; clear hK hkc
    go_enter Tryz.func66, Tryz.ntmps66
    go_wp2_with (go_at_call 95; with_reducible refine (HK.out _).mono ?_; rintro e w1 ⟨rfl, rfl⟩)
    go_returns
    exact ⟨rfl, three_new _ _ _⟩
  · have e : clean ⟨k, i, b, s⟩ = nul := by unfold clean; simp only [if_neg h1, if_neg h2, if_neg h3]
    rw [e]
    obtain rfl : q = 0 := by rw [hkc, if_neg (by omega)]
    have HK := Lib.hid hK; clear hK hkc
    go_enter Tryz.func66, Tryz.ntmps66
    go_wp2_with (go_at_call 95; with_reducible refine (HK.out _).mono ?_; rintro e w1 ⟨rfl, rfl⟩)
    go_returns
    exact ⟨rfl, three_new _ _ _⟩
end Vals
end Go.Proofs.YtgmemdedpklnhaaGreat

/-
  SLICES OF VALUES in memory; the walk of boathouselaw0.SameValues.
-/

namespace Go.Proofs.YtgmemdedpklnhaaGreat.Vals
open Go.RowKit ValMath

/-- A slice that reads as these values. -/
def VSl (w : World) (A : Option Addr) (n : Nat) (vs : List Val) : Prop :=
  vs.length = n ∧ (0 < n → ∃ b off, A = some ⟨b, off, none⟩ ∧ b < w.heap.size ∧ ∀ i (h : i < vs.length),
    w.cell? ⟨b, off + i * 4, none⟩ = some (.int .i64 vs[i].k) ∧ w.cell? ⟨b, off + i * 4 + 1, none⟩ = some (.int .i64 vs[i].i) ∧
    w.cell? ⟨b, off + i * 4 + 2, none⟩ = some (.bool vs[i].b) ∧ w.cell? ⟨b, off + i * 4 + 3, none⟩ = some (.string vs[i].s))

theorem VSl.none_ (w : World) : VSl w none 0 [] := ⟨rfl, fun h => absurd h (by omega)⟩
theorem VSl.keep {w w' : World} {A : Option Addr} {n : Nat} {vs : List Val} (h : VSl w A n vs) {B : Nat} (hb : Below B w w') (hB : ∀ b off, A = some ⟨b, off, none⟩ → b < B) : VSl w' A n vs := by
  refine ⟨h.1, fun hn => ?_⟩
  obtain ⟨b, off, rfl, hlt, hc⟩ := h.2 hn
  have hbB := hB b off rfl
  refine ⟨b, off, rfl, Nat.lt_of_lt_of_le hlt hb.size, fun i hi => ?_⟩
  rw [hb.cell (p := ⟨b, off + i * 4, none⟩) hbB, hb.cell (p := ⟨b, off + i * 4 + 1, none⟩) hbB, hb.cell (p := ⟨b, off + i * 4 + 2, none⟩) hbB, hb.cell (p := ⟨b, off + i * 4 + 3, none⟩) hbB]
  exact hc i hi
theorem VSl.below {w w' : World} {A : Option Addr} {n : Nat} {vs : List Val} (h : VSl w A n vs) (hb : Below w.heap.size w w') : VSl w' A n vs := by
  refine ⟨h.1, fun hn => ?_⟩
  obtain ⟨b, off, rfl, hlt, hc⟩ := h.2 hn
  exact (VSl.keep (A := some ⟨b, off, none⟩) h hb (fun b' off' e => by injection e with e; injection e with e1; omega)).2 hn
theorem VSl.drewN {w : World} {A : Option Addr} {n : Nat} {vs : List Val} (h : VSl w A n vs) (k : Nat) : VSl (w.drewN k) A n vs := h
theorem VSl.at_ {w : World} {A : Option Addr} {n k : Nat} {vs : List Val} (h : VSl w A n vs) (hk : k < n) :
    ∃ b off, ∃ v : Val, vs[k]? = some v ∧ A = some ⟨b, off, none⟩ ∧ b < w.heap.size ∧ w.cell? ⟨b, off + k * 4, none⟩ = some (.int .i64 v.k) ∧ w.cell? ⟨b, off + k * 4 + 1, none⟩ = some (.int .i64 v.i) ∧
    w.cell? ⟨b, off + k * 4 + 2, none⟩ = some (.bool v.b) ∧ w.cell? ⟨b, off + k * 4 + 3, none⟩ = some (.string v.s) := by
  obtain ⟨b, off, hA, hlt, hc⟩ := h.2 (by omega)
  have hkl : k < vs.length := by rw [h.1]; exact hk
  exact ⟨b, off, vs[k], List.getElem?_eq_getElem hkl, hA, hlt, hc k hkl⟩

theorem take_more {α : Type} {l : List α} {k : Nat} {v : α} (h : l[k]? = some v) : l.take (k + 1) = l.take k ++ [v] := by
  rw [List.take_add_one, h]; rfl

/-! ### '==' and '!=' on two values -/
theorem eq_fields (a b : Val) : (a.k == b.k && (a.i == b.i && (a.b == b.b && a.s.toList == b.s.toList))) = decide (a = b) := by
  rw [Lib.toList_data, Lib.toList_data]
  by_cases h : a = b
  · subst h; simp
  · rw [decide_eq_false h]
    by_cases h1 : a.k = b.k <;> by_cases h2 : a.i = b.i <;> by_cases h3 : a.b = b.b <;> by_cases h4 : a.s = b.s
    · exact absurd (Val.ext_ h1 h2 h3 h4) h
    · have : ¬ a.s.data.toList = b.s.data.toList := fun e => h4 (toList_inj e)
      simp [h1, h2, h3]; intro e; exact this (by rw [e])
    all_goals simp [h1, h2, h3]

theorem guard_val (op : BinOp) (x y : Operand) (a b : Array Value) (W : World) : (eqGuard op 71 x y (.agg a) (.agg b)).run Tryz.prog W = .ok () W :=
  run_eqGuard_agg W op 71 x y a b (by kernel_rfl)

theorem equal_val (d : Nat) (a b : Val) (W : World) :
    (Op.equalIn (d + 2) 71 (.agg #[.int .i64 a.k, .int .i64 a.i, .bool a.b, .string a.s]) (.agg #[.int .i64 b.k, .int .i64 b.i, .bool b.b, .string b.s])).run Tryz.prog W = .ok (decide (a = b)) W := by
  rw [← eq_fields]
  rw [run_equalIn_struct W (d + 1) 71 _ _ (by kernel_rfl) (by kernel_rfl)]
  go_simp
  by_cases h1 : a.k = b.k <;> by_cases h2 : a.i = b.i <;> by_cases h3 : a.b = b.b <;> by_cases h4 : a.s.toList = b.s.toList <;> simp [h1, h2, h3, h4]
theorem eql_val (a b : Val) (W : World) : (binOp .eql 71 (.agg #[.int .i64 a.k, .int .i64 a.i, .bool a.b, .string a.s]) (.agg #[.int .i64 b.k, .int .i64 b.i, .bool b.b, .string b.s])).run Tryz.prog W = .ok (.bool (decide (a = b))) W := by
  rw [run_eql_struct, equal_val 9998 a b W]; rfl
theorem neq_val (a b : Val) (W : World) : (binOp .neq 71 (.agg #[.int .i64 a.k, .int .i64 a.i, .bool a.b, .string a.s]) (.agg #[.int .i64 b.k, .int .i64 b.i, .bool b.b, .string b.s])).run Tryz.prog W = .ok (.bool (!decide (a = b))) W := by
  rw [run_neq_struct, equal_val 9998 a b W]; rfl

set_option maxHeartbeats 1000000 in
theorem sameValues_any (A B : Option Addr) (n m c d : Nat) (xs ys : List Val) (w : World) (hx : VSl w A n xs) (hy : VSl w B m ys) (hn : n ≤ maxLen) :
    Calls Tryz.prog 73 #[.slice A n c, .slice B m d] w fun e w' => e = .returned (.bool (decide (xs = ys))) ∧ ∃ k, w' = w.drewN k := by
  unfold maxLen at hn
  by_cases hnm : n = m
  · subst hnm
    go_enter Tryz.func73, Tryz.ntmps73
    go_wp2
    go_loopw [5] (fun i wr => ∃ k : Nat, k ≤ n ∧ i = .int .i64 k ∧ Hid (xs.take k = ys.take k) ∧ ∃ q, wr = w.drewN q) (fun i _ => n - (intOf i).toNat)
    case atStart => exact ⟨0, Nat.zero_le _, rfl, by show xs.take 0 = ys.take 0; simp, 0, rfl⟩
    case round =>
      obtain ⟨k, hk, rfl, hrk, q, rfl⟩ := hrel
      by_cases hlt : k < n
      · obtain ⟨b1, o1, ⟨K1, I1, B1, S1⟩, hv1, rfl, _, c0, c1, c2, c3⟩ := hx.at_ hlt
        obtain ⟨b2, o2, ⟨K2, I2, B2, S2⟩, hv2, rfl, _, d0, d1, d2, d3⟩ := hy.at_ hlt
        simp only [] at c0 c1 c2 c3 d0 d1 d2 d3
        have HX := Lib.hid hx; clear hx
        have HY := Lib.hid hy; clear hy
        have HV1 := Lib.hid hv1; clear hv1
        have HV2 := Lib.hid hv2; clear hv2
        by_cases he : (⟨K1, I1, B1, S1⟩ : Val) = ⟨K2, I2, B2, S2⟩
        · have hq : ∀ W, (binOp .neq 71 (.agg #[.int .i64 K1, .int .i64 I1, .bool B1, .string S1]) (.agg #[.int .i64 K2, .int .i64 I2, .bool B2, .string S2])).run Tryz.prog W = .ok (.bool false) W := fun W => by
            rw [neq_val ⟨K1, I1, B1, S1⟩ ⟨K2, I2, B2, S2⟩ W, decide_eq_true he]; rfl
          have hg := fun x y W => guard_val .neq x y #[.int .i64 K1, .int .i64 I1, .bool B1, .string S1] #[.int .i64 K2, .int .i64 I2, .bool B2, .string S2] W
          have HE := Lib.hid he; clear he
          go_wp2
          go_quiet (fail)
          go_wp2
          go_roundw
          case rel => exact ⟨k + 1, by omega, by go_num, by show _ = _; rw [take_more HV1.out, take_more HV2.out, hrk.out, HE.out], _, rfl⟩
          case measure => simp [intOf]; omega
        · have hq : ∀ W, (binOp .neq 71 (.agg #[.int .i64 K1, .int .i64 I1, .bool B1, .string S1]) (.agg #[.int .i64 K2, .int .i64 I2, .bool B2, .string S2])).run Tryz.prog W = .ok (.bool true) W := fun W => by
            rw [neq_val ⟨K1, I1, B1, S1⟩ ⟨K2, I2, B2, S2⟩ W, decide_eq_false he]; rfl
          have hg := fun x y W => guard_val .neq x y #[.int .i64 K1, .int .i64 I1, .bool B1, .string S1] #[.int .i64 K2, .int .i64 I2, .bool B2, .string S2] W
          have hF : decide (xs = ys) = false := decide_eq_false fun e => he (by
            have h1 := HV1.out; rw [e, HV2.out] at h1; injection h1 with h1; exact h1.symm)
          have HF := Lib.hid hF; clear hF he
          go_wp2
          go_quiet (fail)
          go_wp2
          go_ret
          exact ⟨ret_bool HF.out.symm, _, by rw [World.drewN_drewN]⟩
      · have hF : decide (xs = ys) = true := decide_eq_true (by
          have h := hrk.out
          rwa [List.take_of_length_le (by rw [hx.1]; omega), List.take_of_length_le (by rw [hy.1]; omega)] at h)
        have HF := Lib.hid hF; clear hF
        go_wp2
        go_ret
        exact ⟨ret_bool HF.out.symm, _, rfl⟩
  · have hF : decide (xs = ys) = false := decide_eq_false fun e => hnm (by rw [← hx.1, ← hy.1, e])
    have HF := Lib.hid hF; clear hF
    have hne : ((n : Int) != (m : Int)) = true := by simp; omega
    go_enter Tryz.func73, Tryz.ntmps73
    go_wp2
    go_ret
    exact ⟨ret_bool HF.out.symm, 0, rfl⟩
end Go.Proofs.YtgmemdedpklnhaaGreat.Vals

/-
  ARGUMENTS READ: slices of numbers, slices of values, values, as they stand in memory.
-/







namespace Go.Proofs.YtgmemdedpklnhaaGreat.Sl
open Go.RowKit ValMath Vals Go.ChangeShapes Go.WideShapes Go.Deep

instance : Inhabited Val := ⟨nul⟩
/-- A value's numbers within int64, its text no longer than the form's reach. -/
structure Fine (v : Val) : Prop where
  k1 : -9223372036854775808 ≤ v.k
  k2 : v.k < 9223372036854775808
  i1 : -9223372036854775808 ≤ v.i
  i2 : v.i < 9223372036854775808
  s : v.s.size ≤ 140737488351232

/-- What an argument of values is. -/
structure VArg (w : World) (A : Option Addr) (n c : Nat) (vs : List Val) : Prop where
  sl : VSl w A n vs
  le : n ≤ c
  cap : c * 40 ≤ 140737488351232
  fine : ∀ v ∈ vs, Fine v
  nil : A = none → n = 0 ∧ c = 0

/-- A slice that reads as these numbers. -/
def ISl (w : World) (A : Option Addr) (n : Nat) (xs : List Int) : Prop :=
  xs.length = n ∧ (0 < n → ∃ b off, A = some ⟨b, off, none⟩ ∧ b < w.heap.size ∧ ∀ i (h : i < xs.length), w.cell? ⟨b, off + i, none⟩ = some (.int .i64 xs[i]))
structure IArg (w : World) (A : Option Addr) (n c : Nat) (xs : List Int) : Prop where
  sl : ISl w A n xs
  le : n ≤ c
  cap : c * 8 ≤ 140737488351232
  fine : ∀ x ∈ xs, -9223372036854775808 ≤ x ∧ x < 9223372036854775808
  nil : A = none → n = 0 ∧ c = 0

theorem ISl.keep {w w' : World} {A : Option Addr} {n : Nat} {xs : List Int} (h : ISl w A n xs) {B : Nat} (hb : Below B w w') (hB : ∀ b off, A = some ⟨b, off, none⟩ → b < B) : ISl w' A n xs := by
  refine ⟨h.1, fun hn => ?_⟩
  obtain ⟨b, off, rfl, hlt, hc⟩ := h.2 hn
  refine ⟨b, off, rfl, Nat.lt_of_lt_of_le hlt hb.size, fun i hi => ?_⟩
  rw [hb.cell (p := ⟨b, off + i, none⟩) (hB b off rfl)]
  exact hc i hi
theorem ISl.below {w w' : World} {A : Option Addr} {n : Nat} {xs : List Int} (h : ISl w A n xs) (hb : Below w.heap.size w w') : ISl w' A n xs := by
  refine ⟨h.1, fun hn => ?_⟩
  obtain ⟨b, off, rfl, hlt, hc⟩ := h.2 hn
  exact (ISl.keep (A := some ⟨b, off, none⟩) h hb (fun b' off' e => by injection e with e; injection e with e1; omega)).2 hn
theorem ISl.at_ {w : World} {A : Option Addr} {n k : Nat} {xs : List Int} (h : ISl w A n xs) (hk : k < n) :
    ∃ b off, ∃ x : Int, xs[k]? = some x ∧ A = some ⟨b, off, none⟩ ∧ b < w.heap.size ∧ w.cell? ⟨b, off + k, none⟩ = some (.int .i64 x) := by
  obtain ⟨b, off, hA, hlt, hc⟩ := h.2 (by omega)
  have hkl : k < xs.length := by rw [h.1]; exact hk
  exact ⟨b, off, xs[k], List.getElem?_eq_getElem hkl, hA, hlt, hc k hkl⟩

theorem fine_nul : Fine nul := ⟨by decide, by decide, by decide, by decide, by decide⟩
theorem Fine.clean {v : Val} (h : Fine v) : Fine (clean v) := by
  have h1 := h.i1; have h2 := h.i2; have h3 := h.s
  unfold ValMath.clean
  split
  · exact ⟨by simp, by simp, h1, h2, by simp⟩
  · split
    · exact ⟨by simp, by simp, by simp, by simp, by simp⟩
    · split
      · exact ⟨by simp, by simp, by simp, by simp, h3⟩
      · exact fine_nul

section
variable {H : Type} {enc : TypeId × Value → H} {w : World} {base : Nat} {spare : Nat → Bool} {held : Bool}

theorem weights_all {P : Program} {e : TypeId} {ds : List (DataW H)} {d : DataW H} (hd : d ∈ ds) : ∀ n ∈ d.weights P e, n ∈ DataW.weightsAll P e ds := by
  induction ds with
  | nil => cases hd
  | cons x ds ih =>
    intro n hn
    simp only [DataW.weightsAll, List.mem_append]
    rcases List.mem_cons.1 hd with h | h
    · subst h; exact .inl hn
    · exact .inr (ih h n hn)

set_option maxRecDepth 100000 in
theorem val_cells {n : Nat} {cs : List Value} {x : DataW H × List MemPlace} (h : DataW.trod enc Tryz.prog w base spare held n 71 cs = some x) :
    ∃ v : Val, cs = [.int .i64 v.k, .int .i64 v.i, .bool v.b, .string v.s] ∧ x.1 = .agg [.lit (.int .i64 v.k), .lit (.int .i64 v.i), .lit (.bool v.b), .lit (.string v.s.data.toList)] ∧
      (Lit.int .i64 v.k).wf = true ∧ (Lit.int .i64 v.i).wf = true := by
  obtain ⟨ys, m, _, hx, hcl, hyl, hg⟩ := DataW.trod_struct Tryz.underlying71 h
  have hC : Tryz.prog.cellsOf 71 = 4 := by kernel_rfl
  rw [hC] at hcl
  match cs, hcl with
  | [c0, c1, c2, c3], _ =>
    match ys, hyl with
    | [y0, y1, y2, y3], _ =>
      have g0 : DataW.trod enc Tryz.prog w base spare held m 3 [c0] = some y0 := hg 0 _ rfl
      have g1 : DataW.trod enc Tryz.prog w base spare held m 3 [c1] = some y1 := hg 1 _ rfl
      have g2 : DataW.trod enc Tryz.prog w base spare held m 4 [c2] = some y2 := hg 2 _ rfl
      have g3 : DataW.trod enc Tryz.prog w base spare held m 9 [c3] = some y3 := hg 3 _ rfl
      obtain ⟨k, e0, rfl, w0⟩ := DataW.trod_int Tryz.underlying3 g0
      obtain ⟨i, e1, rfl, w1⟩ := DataW.trod_int Tryz.underlying3 g1
      obtain ⟨b, e2, rfl⟩ := DataW.trod_bool Tryz.underlying4 g2
      obtain ⟨s, e3, rfl, _⟩ := DataW.trod_string Tryz.underlying9 g3
      injection e0 with e0; injection e1 with e1; injection e2 with e2; injection e3 with e3
      subst e0; subst e1; subst e2; subst e3
      exact ⟨⟨k, i, b, s⟩, rfl, by rw [hx]; rfl, w0, w1⟩

theorem fine_of {v : Val} (h0 : (Lit.int .i64 v.k).wf = true) (h1 : (Lit.int .i64 v.i).wf = true) (hs : v.s.size ≤ reachBytes) : Fine v := by
  have a := bounds_i64 h0
  have b := bounds_i64 h1
  exact ⟨a.1, by omega, b.1, by omega, by simpa [reachBytes] using hs⟩
set_option maxRecDepth 100000 in
theorem val_weights (v : Val) : v.s.size ∈ (DataW.agg [.lit (.int .i64 v.k), .lit (.int .i64 v.i), .lit (.bool v.b), .lit (.string v.s.data.toList)] : DataW H).weights Tryz.prog 71 := by
  rw [DataW.weights, Tryz.underlying71]
  simp only [List.map_cons, List.map_nil, DataW.weightsEach, DataW.weights, List.nil_append, List.append_nil, List.mem_singleton]
  rfl

set_option maxRecDepth 100000 in
theorem val_of {ts : List TypeId} {ds : List (DataW H)} {j b0 : Nat} {r : Reach} {v : Value} {d : DataW H} {p : List MemPlace} (ht : ts[j]? = some 71) (hd : ds[j]? = some d)
    (hsz : (DataW.weightsEach Tryz.prog ts ds).all (· ≤ reachBytes) = true) (hv : Value.okWide Tryz.prog w r b0 71 v) (h : DataW.Trod enc Tryz.prog w base spare held 71 v d p) :
    ∃ u : Val, v = vagg u ∧ Fine u := by
  obtain ⟨cs, rfl, hc⟩ := okWide_struct Tryz.underlying71 hv
  obtain ⟨fuel, hf⟩ := h
  obtain ⟨u, e, hx, w0, w1⟩ := val_cells hf
  refine ⟨u, ?_, fine_of w0 w1 ?_⟩
  · simp only [Value.cells] at e
    rw [show cs = cs.toList.toArray from rfl, e]
  · simp only [] at hx
    subst hx
    have := List.all_eq_true.1 hsz _ (DataW.weights_mem_each ht hd _ (val_weights u))
    simpa using this

theorem at_add (b off : Nat) (sp : Option Nat) (i j : Nat) (hj : 0 < i * 4 + j) : ((⟨b, off, sp⟩ : Addr).add (i * 4)).add j = ⟨b, off + i * 4 + j, none⟩ := by
  rw [Go.Deep.add_add]; unfold Addr.add; rw [if_neg (by omega), Nat.add_assoc]

set_option maxRecDepth 100000 in
theorem vals_of {ts : List TypeId} {ds : List (DataW H)} {j : Nat} {A : Option Addr} {n c : Nat} {d : DataW H} {p : List MemPlace} (ht : ts[j]? = some 65) (hd : ds[j]? = some d)
    (hsz : (DataW.weightsEach Tryz.prog ts ds).all (· ≤ reachBytes) = true) (h : DataW.Trod enc Tryz.prog w base (fun _ => true) held 65 (.slice A n c) d p) :
    ∃ vs : List Val, VArg w A n c vs := by
  obtain ⟨fuel, hf⟩ := h
  have hC : Tryz.prog.cellsOf 71 = 4 := by kernel_rfl
  have hBy : Tryz.prog.bytesOf 71 = 40 := by kernel_rfl
  rcases open_slice Tryz.underlying65 hf with ⟨e, _⟩ | ⟨a, len, cap, m, q, D, Pl, e, hb, hl, hm, hmm, hx, hi⟩
  · simp only [Value.cells, List.cons.injEq, Value.slice.injEq, and_true] at e
    obtain ⟨rfl, rfl, rfl⟩ := e
    exact ⟨[], VSl.none_ w, Nat.le_refl _, by omega, by simp, fun _ => ⟨rfl, rfl⟩⟩
  · simp only [Value.cells, List.cons.injEq, Value.slice.injEq, and_true] at e
    obtain ⟨rfl, rfl, rfl⟩ := e
    simp only [if_true] at hmm
    subst hmm
    simp only [Prod.mk.injEq] at hx
    obtain ⟨rfl, rfl⟩ := hx
    rw [hC] at hi
    have hel : ∀ i, i < n → ∃ v : Val, Fine v ∧ ∀ (b off : Nat) (sp : Option Nat), a = ⟨b, off, sp⟩ → (w.cell? ((⟨b, off, sp⟩ : Addr).add (i * 4)) = some (.int .i64 v.k) ∧ w.cell? ⟨b, off + i * 4 + 1, none⟩ = some (.int .i64 v.i) ∧
        w.cell? ⟨b, off + i * 4 + 2, none⟩ = some (.bool v.b) ∧ w.cell? ⟨b, off + i * 4 + 3, none⟩ = some (.string v.s)) := by
      intro i hin
      obtain ⟨cs', h1, h2⟩ := hi i (by omega)
      obtain ⟨v, e, hxx, w0, w1⟩ := val_cells h2
      subst e
      obtain ⟨_, _, hat⟩ := World.cells?_some h1
      refine ⟨v, fine_of w0 w1 ?_, ?_⟩
      · simp only [] at hxx
        have hmem : D i ∈ (List.range n).map D := List.mem_map.2 ⟨i, by simpa using hin, rfl⟩
        have hw := weights_all (P := Tryz.prog) (e := 71) hmem v.s.size (by rw [hxx]; exact val_weights v)
        have hall := List.all_eq_true.1 hsz v.s.size (DataW.weights_mem_each ht hd _ (by
          simp only [DataW.weights, Tryz.underlying65, List.mem_cons, List.mem_append]
          exact .inr (.inl hw)))
        simpa using hall
      · rintro b off sp rfl
        have a0 := hat 0 (by omega)
        have a1 := hat 1 (by omega)
        have a2 := hat 2 (by omega)
        have a3 := hat 3 (by omega)
        rw [at_add _ _ _ _ _ (by omega)] at a1 a2 a3
        refine ⟨?_, a1, a2, a3⟩
        have e0 : (((⟨b, off, sp⟩ : Addr).add (i * 4)).add 0) = (⟨b, off, sp⟩ : Addr).add (i * 4) := by unfold Addr.add; simp
        rw [e0] at a0; exact a0
    obtain ⟨f, hfv⟩ := choose_lt (α := Val) (p := fun i v => Fine v ∧ ∀ (b off : Nat) (sp : Option Nat), a = ⟨b, off, sp⟩ → (w.cell? ((⟨b, off, sp⟩ : Addr).add (i * 4)) = some (.int .i64 v.k) ∧ w.cell? ⟨b, off + i * 4 + 1, none⟩ = some (.int .i64 v.i) ∧
        w.cell? ⟨b, off + i * 4 + 2, none⟩ = some (.bool v.b) ∧ w.cell? ⟨b, off + i * 4 + 3, none⟩ = some (.string v.s))) hel
    refine ⟨(List.range n).map f, ⟨by simp, fun hn => ?_⟩, hl, ?_, ?_, fun h => by cases h⟩
    · obtain ⟨b, off, sp⟩ := a
      have h0 := ((hfv 0 hn).2 b off sp rfl).1
      have hsp : sp = none := by
        cases sp with
        | none => rfl
        | some s =>
          exfalso
          unfold Addr.add World.cell? at h0
          simp at h0
          split at h0 <;> simp_all
      subst hsp
      have hlt : b < w.heap.size := by
        rcases Nat.lt_or_ge b w.heap.size with h | h
        · exact h
        · exfalso
          unfold Addr.add World.cell? at h0
          simp only [Nat.zero_mul, if_true] at h0
          rw [Array.getElem?_eq_none h] at h0; cases h0
      refine ⟨b, off, rfl, hlt, fun i hil => ?_⟩
      have hin : i < n := by simpa using hil
      have hc := (hfv i hin).2 b off none rfl
      have e0 : (⟨b, off, none⟩ : Addr).add (i * 4) = ⟨b, off + i * 4, none⟩ := by
        unfold Addr.add; split
        · rename_i h; rw [h]; rfl
        · rfl
      rw [e0] at hc
      simpa using hc
    · have := sized_slice hsz ht hd Tryz.underlying65
      rw [hBy] at this
      simp only [List.length_map, List.length_range] at this
      rw [Nat.add_sub_of_le hl] at this
      simpa [reachBytes] using this
    · intro v hv
      simp only [List.mem_map, List.mem_range] at hv
      obtain ⟨i, hin, rfl⟩ := hv
      exact (hfv i hin).1

set_option maxRecDepth 100000 in
theorem ints_of {ts : List TypeId} {ds : List (DataW H)} {j : Nat} {A : Option Addr} {n c : Nat} {d : DataW H} {p : List MemPlace} (ht : ts[j]? = some 108) (hd : ds[j]? = some d)
    (hsz : (DataW.weightsEach Tryz.prog ts ds).all (· ≤ reachBytes) = true) (h : DataW.Trod enc Tryz.prog w base (fun _ => true) held 108 (.slice A n c) d p) :
    ∃ xs : List Int, IArg w A n c xs := by
  obtain ⟨fuel, hf⟩ := h
  have hC : Tryz.prog.cellsOf 3 = 1 := by kernel_rfl
  have hBy : Tryz.prog.bytesOf 3 = 8 := by kernel_rfl
  rcases open_ints Tryz.underlying108 Tryz.underlying3 hC hf with ⟨e, _⟩ | ⟨a, len, cap, zs, e, hb, hl, hm, hzl, hx, hcell, hwf⟩
  · simp only [Value.cells, List.cons.injEq, Value.slice.injEq, and_true] at e
    obtain ⟨rfl, rfl, rfl⟩ := e
    exact ⟨[], ⟨rfl, fun h => absurd h (by omega)⟩, Nat.le_refl _, by omega, by simp, fun _ => ⟨rfl, rfl⟩⟩
  · simp only [Value.cells, List.cons.injEq, Value.slice.injEq, and_true] at e
    obtain ⟨hA, hn', hc'⟩ := e
    subst hA
    obtain rfl : len = n := hn'.symm
    obtain rfl : cap = c := hc'.symm
    simp only [if_true] at hzl
    simp only [Prod.mk.injEq] at hx
    obtain ⟨rfl, rfl⟩ := hx
    have hcap : cap * 8 ≤ 140737488351232 := by
      have := sized_slice hsz ht hd Tryz.underlying108
      rw [hBy] at this
      simp only [lits, List.length_map, List.length_take, List.length_drop] at this
      rw [hzl, Nat.min_eq_left hl, show len + (cap - len) = cap by omega] at this
      simpa [reachBytes] using this
    refine ⟨zs.take len, ⟨by rw [List.length_take, hzl]; omega, fun hn => ?_⟩, hl, hcap, fun x hx => ?_, fun h => by cases h⟩
    · obtain ⟨b, off, sp⟩ := a
      have h0 := hcell 0 (by omega)
      have hsp : sp = none := by
        cases sp with
        | none => rfl
        | some s =>
          exfalso
          unfold Addr.add World.cell? at h0
          simp at h0
          split at h0 <;> simp_all
      subst hsp
      have hlt : b < w.heap.size := by
        rcases Nat.lt_or_ge b w.heap.size with h | h
        · exact h
        · exfalso
          unfold Addr.add World.cell? at h0
          simp only [if_true] at h0
          rw [Array.getElem?_eq_none h] at h0; cases h0
      refine ⟨b, off, rfl, hlt, fun i hil => ?_⟩
      rw [List.length_take] at hil
      have hc := hcell i (by omega)
      have e0 : (⟨b, off, none⟩ : Addr).add i = ⟨b, off + i, none⟩ := by
        unfold Addr.add; split
        · rename_i h; rw [h]; rfl
        · rfl
      rw [e0, List.getD_eq_getElem?_getD, List.getElem?_eq_getElem (by omega)] at hc
      rw [hc, List.getElem_take]; rfl
    · have := bounds_i64 (hwf x (List.mem_of_mem_take hx))
      omega
end
end Go.Proofs.YtgmemdedpklnhaaGreat.Sl

/-
  A file's columns and values (api.Data) as an argument.
-/


namespace Go.Proofs.YtgmemdedpklnhaaGreat.Sl
open Go.RowKit ValMath Vals Go.ChangeShapes Go.WideShapes Go.Deep VecMath

instance : Inhabited Colm := ⟨noCol⟩
/-- A slice that reads as these columns. -/
def CSl (w : World) (A : Option Addr) (n : Nat) (cs : List Colm) : Prop :=
  cs.length = n ∧ (0 < n → ∃ b off, A = some ⟨b, off, none⟩ ∧ b < w.heap.size ∧ ∀ i (h : i < cs.length), w.cell? ⟨b, off + i * 3, none⟩ = some (.int .i64 cs[i].id) ∧ w.cell? ⟨b, off + i * 3 + 1, none⟩ = some (.string cs[i].name) ∧ w.cell? ⟨b, off + i * 3 + 2, none⟩ = some (.int .i64 cs[i].kind))
structure FineC (c : Colm) : Prop where
  i1 : -9223372036854775808 ≤ c.id
  i2 : c.id < 9223372036854775808
  k1 : -9223372036854775808 ≤ c.kind
  k2 : c.kind < 9223372036854775808
  s : c.name.size ≤ 140737488351232
structure CArg (w : World) (A : Option Addr) (n c : Nat) (cs : List Colm) : Prop where
  sl : CSl w A n cs
  le : n ≤ c
  cap : c * 32 ≤ 140737488351232
  fine : ∀ v ∈ cs, FineC v
  nil : A = none → n = 0 ∧ c = 0
/-- A row's slice. -/
structure RowA where
  A : Option Addr
  n : Nat
  c : Nat
  vs : List Val
instance : Inhabited RowA := ⟨⟨none, 0, 0, []⟩⟩
def RSl (w : World) (A : Option Addr) (n : Nat) (rs : List RowA) : Prop :=
  rs.length = n ∧ (0 < n → ∃ b off, A = some ⟨b, off, none⟩ ∧ b < w.heap.size ∧ ∀ i (h : i < rs.length), w.cell? ⟨b, off + i, none⟩ = some (.slice rs[i].A rs[i].n rs[i].c))
structure RArg (w : World) (A : Option Addr) (n c : Nat) (rs : List RowA) : Prop where
  sl : RSl w A n rs
  le : n ≤ c
  cap : c * 24 ≤ 140737488351232
  rows : ∀ r ∈ rs, VArg w r.A r.n r.c r.vs
  nil : A = none → n = 0 ∧ c = 0
/-- An argument of type Data. -/
structure DArg (w : World) (d : Dat) (AC : Option Addr) (nC cC : Nat) (AV : Option Addr) (nV cV : Nat) (rs : List RowA) : Prop where
  r1 : -9223372036854775808 ≤ d.rows
  r2 : d.rows < 9223372036854775808
  cols : CArg w AC nC cC d.cols
  vals : RArg w AV nV cV rs
  eq : d.vals = rs.map (·.vs)
abbrev dagg (rows : Int) (AC : Option Addr) (nC cC : Nat) (AV : Option Addr) (nV cV : Nat) : Value := .agg #[.int .i64 rows, .slice AC nC cC, .slice AV nV cV]

theorem add_next (b off : Nat) (sp : Option Nat) (i j k : Nat) (hj : 0 < i * k + j) : ((⟨b, off, sp⟩ : Addr).add (i * k)).add j = ⟨b, off + i * k + j, none⟩ := by
  rw [Go.Deep.add_add]; unfold Addr.add; rw [if_neg (by omega), Nat.add_assoc]
theorem addr_plain {w : World} {b off : Nat} {sp : Option Nat} {v : Value} (h : w.cell? ((⟨b, off, sp⟩ : Addr).add 0) = some v) : sp = none ∧ b < w.heap.size := by
  have hsp : sp = none := by
    cases sp with
    | none => rfl
    | some s =>
      exfalso
      unfold Addr.add World.cell? at h
      simp at h
      split at h <;> simp_all
  subst hsp
  refine ⟨rfl, ?_⟩
  rcases Nat.lt_or_ge b w.heap.size with h1 | h1
  · exact h1
  · exfalso
    unfold Addr.add World.cell? at h
    simp only [if_true] at h
    rw [Array.getElem?_eq_none h1] at h; cases h
theorem add_flat (b off i : Nat) : (⟨b, off, none⟩ : Addr).add i = ⟨b, off + i, none⟩ := by
  unfold Addr.add; split
  · rename_i h; rw [h]; rfl
  · rfl

section
variable {H : Type} {enc : TypeId × Value → H} {w : World} {base : Nat} {spare : Nat → Bool} {held : Bool}

set_option maxRecDepth 100000 in
theorem col_cells {n : Nat} {cs : List Value} {x : DataW H × List MemPlace} (h : DataW.trod enc Tryz.prog w base spare held n 63 cs = some x) :
    ∃ v : Colm, cs = [.int .i64 v.id, .string v.name, .int .i64 v.kind] ∧ x.1 = .agg [.lit (.int .i64 v.id), .lit (.string v.name.data.toList), .lit (.int .i64 v.kind)] ∧ (Lit.int .i64 v.id).wf = true ∧ (Lit.int .i64 v.kind).wf = true := by
  obtain ⟨ys, m, _, hx, hcl, hyl, hg⟩ := DataW.trod_struct Tryz.underlying63 h
  have hC : Tryz.prog.cellsOf 63 = 3 := by kernel_rfl
  rw [hC] at hcl
  match cs, hcl with
  | [c0, c1, c2], _ =>
    match ys, hyl with
    | [y0, y1, y2], _ =>
      have g0 : DataW.trod enc Tryz.prog w base spare held m 3 [c0] = some y0 := hg 0 _ rfl
      have g1 : DataW.trod enc Tryz.prog w base spare held m 9 [c1] = some y1 := hg 1 _ rfl
      have g2 : DataW.trod enc Tryz.prog w base spare held m 3 [c2] = some y2 := hg 2 _ rfl
      obtain ⟨k, e0, rfl, w0⟩ := DataW.trod_int Tryz.underlying3 g0
      obtain ⟨s, e1, rfl, _⟩ := DataW.trod_string Tryz.underlying9 g1
      obtain ⟨i, e2, rfl, w1⟩ := DataW.trod_int Tryz.underlying3 g2
      injection e0 with e0; injection e1 with e1; injection e2 with e2
      subst e0; subst e1; subst e2
      exact ⟨⟨k, s, i⟩, rfl, by rw [hx]; rfl, w0, w1⟩
set_option maxRecDepth 100000 in
theorem col_weights (v : Colm) : v.name.size ∈ (DataW.agg [.lit (.int .i64 v.id), .lit (.string v.name.data.toList), .lit (.int .i64 v.kind)] : DataW H).weights Tryz.prog 63 := by
  rw [DataW.weights, Tryz.underlying63]
  simp only [List.map_cons, List.map_nil, DataW.weightsEach, DataW.weights, List.nil_append, List.append_nil, List.mem_singleton]
  rfl
theorem fineC_of {v : Colm} (h0 : (Lit.int .i64 v.id).wf = true) (h1 : (Lit.int .i64 v.kind).wf = true) (hs : v.name.size ≤ reachBytes) : FineC v := by
  have a := bounds_i64 h0
  have b := bounds_i64 h1
  exact ⟨a.1, by omega, b.1, by omega, by simpa [reachBytes] using hs⟩

set_option maxRecDepth 100000 in
theorem cols_of {ts : List TypeId} {ds : List (DataW H)} {j : Nat} {A : Option Addr} {n c : Nat} {d : DataW H} {p : List MemPlace} (ht : ts[j]? = some 22) (hd : ds[j]? = some d)
    (hsz : (DataW.weightsEach Tryz.prog ts ds).all (· ≤ reachBytes) = true) (h : DataW.Trod enc Tryz.prog w base (fun _ => true) held 22 (.slice A n c) d p) :
    ∃ vs : List Colm, CArg w A n c vs := by
  obtain ⟨fuel, hf⟩ := h
  have hC : Tryz.prog.cellsOf 63 = 3 := by kernel_rfl
  have hBy : Tryz.prog.bytesOf 63 = 32 := by kernel_rfl
  rcases open_slice Tryz.underlying22 hf with ⟨e, _⟩ | ⟨a, len, cap, m, q, D, Pl, e, hb, hl, hm, hmm, hx, hi⟩
  · simp only [Value.cells, List.cons.injEq, Value.slice.injEq, and_true] at e
    obtain ⟨rfl, rfl, rfl⟩ := e
    exact ⟨[], ⟨rfl, fun h => absurd h (by omega)⟩, Nat.le_refl _, by omega, by simp, fun _ => ⟨rfl, rfl⟩⟩
  · simp only [Value.cells, List.cons.injEq, Value.slice.injEq, and_true] at e
    obtain ⟨rfl, rfl, rfl⟩ := e
    simp only [if_true] at hmm
    subst hmm
    simp only [Prod.mk.injEq] at hx
    obtain ⟨rfl, rfl⟩ := hx
    rw [hC] at hi
    have hel : ∀ i, i < n → ∃ v : Colm, FineC v ∧ ∀ (b off : Nat) (sp : Option Nat), a = ⟨b, off, sp⟩ → (w.cell? ((⟨b, off, sp⟩ : Addr).add (i * 3)) = some (.int .i64 v.id) ∧ w.cell? ⟨b, off + i * 3 + 1, none⟩ = some (.string v.name) ∧
        w.cell? ⟨b, off + i * 3 + 2, none⟩ = some (.int .i64 v.kind)) := by
      intro i hin
      obtain ⟨cs', h1, h2⟩ := hi i (by omega)
      obtain ⟨v, e, hxx, w0, w1⟩ := col_cells h2
      subst e
      obtain ⟨_, _, hat⟩ := World.cells?_some h1
      refine ⟨v, fineC_of w0 w1 ?_, ?_⟩
      · simp only [] at hxx
        have hmem : D i ∈ (List.range n).map D := List.mem_map.2 ⟨i, by simpa using hin, rfl⟩
        have hw := weights_all (P := Tryz.prog) (e := 63) hmem v.name.size (by rw [hxx]; exact col_weights v)
        have hall := List.all_eq_true.1 hsz v.name.size (DataW.weights_mem_each ht hd _ (by
          simp only [DataW.weights, Tryz.underlying22, List.mem_cons, List.mem_append]
          exact .inr (.inl hw)))
        simpa using hall
      · rintro b off sp rfl
        have a0 := hat 0 (by omega)
        have a1 := hat 1 (by omega)
        have a2 := hat 2 (by omega)
        rw [add_next _ _ _ _ _ _ (by omega)] at a1 a2
        refine ⟨?_, a1, a2⟩
        have e0 : (((⟨b, off, sp⟩ : Addr).add (i * 3)).add 0) = (⟨b, off, sp⟩ : Addr).add (i * 3) := by unfold Addr.add; simp
        rw [e0] at a0; exact a0
    obtain ⟨f, hfv⟩ := choose_lt (α := Colm) (p := fun i v => FineC v ∧ ∀ (b off : Nat) (sp : Option Nat), a = ⟨b, off, sp⟩ → (w.cell? ((⟨b, off, sp⟩ : Addr).add (i * 3)) = some (.int .i64 v.id) ∧ w.cell? ⟨b, off + i * 3 + 1, none⟩ = some (.string v.name) ∧
        w.cell? ⟨b, off + i * 3 + 2, none⟩ = some (.int .i64 v.kind))) hel
    refine ⟨(List.range n).map f, ⟨by simp, fun hn => ?_⟩, hl, ?_, ?_, fun h => by cases h⟩
    · obtain ⟨b, off, sp⟩ := a
      have h0 := ((hfv 0 hn).2 b off sp rfl).1
      rw [Nat.zero_mul] at h0
      obtain ⟨rfl, hlt⟩ := addr_plain h0
      refine ⟨b, off, rfl, hlt, fun i hil => ?_⟩
      have hin : i < n := by simpa using hil
      have hc := (hfv i hin).2 b off none rfl
      rw [add_flat] at hc
      simpa using hc
    · have := sized_slice hsz ht hd Tryz.underlying22
      rw [hBy] at this
      simp only [List.length_map, List.length_range] at this
      rw [Nat.add_sub_of_le hl] at this
      simpa [reachBytes] using this
    · intro v hv
      simp only [List.mem_map, List.mem_range] at hv
      obtain ⟨i, hin, rfl⟩ := hv
      exact (hfv i hin).1

set_option maxRecDepth 100000 in
theorem row_cells {n : Nat} {cs : List Value} {x : DataW H × List MemPlace} (h : DataW.trod enc Tryz.prog w base (fun _ => true) held n 67 cs = some x) (hw : ∀ k ∈ x.1.weights Tryz.prog 67, k ≤ reachBytes) :
    ∃ r : RowA, cs = [.slice r.A r.n r.c] ∧ VArg w r.A r.n r.c r.vs := by
  obtain ⟨ys, m, _, hx, hcl, hyl, hg⟩ := DataW.trod_struct Tryz.underlying67 h
  have hC : Tryz.prog.cellsOf 67 = 1 := by kernel_rfl
  rw [hC] at hcl
  match cs, hcl with
  | [c0], _ =>
    match ys, hyl with
    | [y0], _ =>
      have g0 : DataW.trod enc Tryz.prog w base (fun _ => true) held m 65 [c0] = some y0 := hg 0 _ rfl
      obtain ⟨A, n', c', rfl⟩ : ∃ A n' c', c0 = .slice A n' c' := by
        rcases open_slice Tryz.underlying65 g0 with ⟨e, _⟩ | ⟨a, len, cap, m, q, D, Pl, e, _⟩
        · simp only [List.cons.injEq, and_true] at e; exact ⟨_, _, _, e⟩
        · simp only [List.cons.injEq, and_true] at e; exact ⟨_, _, _, e⟩
      have hsz : (DataW.weightsEach Tryz.prog [65] [y0.1]).all (· ≤ reachBytes) = true := by
        rw [List.all_eq_true]
        intro k hk
        simp only [DataW.weightsEach, List.append_nil] at hk
        have := hw k (by
          rw [hx]
          show k ∈ (DataW.agg [y0.1] : DataW H).weights Tryz.prog 67
          rw [DataW.weights, Tryz.underlying67]
          exact DataW.weights_mem_each (j := 0) rfl rfl _ hk)
        simpa using this
      obtain ⟨vs, hv⟩ := vals_of (ts := [65]) (ds := [y0.1]) (j := 0) (A := A) (n := n') (c := c') (p := y0.2) rfl rfl hsz ⟨m, g0⟩
      exact ⟨⟨A, n', c', vs⟩, rfl, hv⟩

set_option maxRecDepth 100000 in
theorem rows_of {ts : List TypeId} {ds : List (DataW H)} {j : Nat} {A : Option Addr} {n c : Nat} {d : DataW H} {p : List MemPlace} (ht : ts[j]? = some 23) (hd : ds[j]? = some d)
    (hsz : (DataW.weightsEach Tryz.prog ts ds).all (· ≤ reachBytes) = true) (h : DataW.Trod enc Tryz.prog w base (fun _ => true) held 23 (.slice A n c) d p) :
    ∃ rs : List RowA, RArg w A n c rs := by
  obtain ⟨fuel, hf⟩ := h
  have hC : Tryz.prog.cellsOf 67 = 1 := by kernel_rfl
  have hBy : Tryz.prog.bytesOf 67 = 24 := by kernel_rfl
  rcases open_slice Tryz.underlying23 hf with ⟨e, _⟩ | ⟨a, len, cap, m, q, D, Pl, e, hb, hl, hm, hmm, hx, hi⟩
  · simp only [Value.cells, List.cons.injEq, Value.slice.injEq, and_true] at e
    obtain ⟨rfl, rfl, rfl⟩ := e
    exact ⟨[], ⟨rfl, fun h => absurd h (by omega)⟩, Nat.le_refl _, by omega, by simp, fun _ => ⟨rfl, rfl⟩⟩
  · simp only [Value.cells, List.cons.injEq, Value.slice.injEq, and_true] at e
    obtain ⟨rfl, rfl, rfl⟩ := e
    simp only [if_true] at hmm
    subst hmm
    simp only [Prod.mk.injEq] at hx
    obtain ⟨rfl, rfl⟩ := hx
    rw [hC] at hi
    have hel : ∀ i, i < n → ∃ r : RowA, VArg w r.A r.n r.c r.vs ∧ w.cell? (a.add i) = some (.slice r.A r.n r.c) := by
      intro i hin
      obtain ⟨cs', h1, h2⟩ := hi i (by omega)
      have hmem : D i ∈ (List.range n).map D := List.mem_map.2 ⟨i, by simpa using hin, rfl⟩
      obtain ⟨r, e, hv⟩ := row_cells h2 (fun k hk => by
        have hw := weights_all (P := Tryz.prog) (e := 67) hmem k hk
        have hall := List.all_eq_true.1 hsz k (DataW.weights_mem_each ht hd _ (by
          simp only [DataW.weights, Tryz.underlying23, List.mem_cons, List.mem_append]
          exact .inr (.inl hw)))
        simpa using hall)
      subst e
      obtain ⟨_, _, hat⟩ := World.cells?_some h1
      refine ⟨r, hv, ?_⟩
      have a0 := hat 0 (by omega)
      rw [Nat.mul_one] at a0
      have e0 : ((a.add i).add 0) = a.add i := by unfold Addr.add; simp
      rw [e0] at a0; exact a0
    obtain ⟨f, hfv⟩ := choose_lt (α := RowA) (p := fun i r => VArg w r.A r.n r.c r.vs ∧ w.cell? (a.add i) = some (.slice r.A r.n r.c)) hel
    refine ⟨(List.range n).map f, ⟨by simp, fun hn => ?_⟩, hl, ?_, ?_, fun h => by cases h⟩
    · obtain ⟨b, off, sp⟩ := a
      have h0 := (hfv 0 hn).2
      obtain ⟨rfl, hlt⟩ := addr_plain h0
      refine ⟨b, off, rfl, hlt, fun i hil => ?_⟩
      have hin : i < n := by simpa using hil
      have hc := (hfv i hin).2
      rw [add_flat] at hc
      simpa using hc
    · have := sized_slice hsz ht hd Tryz.underlying23
      rw [hBy] at this
      simp only [List.length_map, List.length_range] at this
      rw [Nat.add_sub_of_le hl] at this
      simpa [reachBytes] using this
    · intro v hv
      simp only [List.mem_map, List.mem_range] at hv
      obtain ⟨i, hin, rfl⟩ := hv
      exact (hfv i hin).1

set_option maxRecDepth 100000 in
theorem data_of {ts : List TypeId} {ds : List (DataW H)} {j b0 : Nat} {r : Reach} {v : Value} {d : DataW H} {p : List MemPlace} (ht : ts[j]? = some 25) (hd : ds[j]? = some d)
    (hsz : (DataW.weightsEach Tryz.prog ts ds).all (· ≤ reachBytes) = true) (hv : Value.okWide Tryz.prog w r b0 25 v) (h : DataW.Trod enc Tryz.prog w base (fun _ => true) held 25 v d p) :
    ∃ (D : Dat) (AC : Option Addr) (nC cC : Nat) (AV : Option Addr) (nV cV : Nat) (rs : List RowA), v = dagg D.rows AC nC cC AV nV cV ∧ DArg w D AC nC cC AV nV cV rs := by
  obtain ⟨cs, rfl, hc⟩ := okWide_struct Tryz.underlying25 hv
  obtain ⟨fuel, hf⟩ := h
  obtain ⟨ys, m, _, hx, hcl, hyl, hg⟩ := DataW.trod_struct Tryz.underlying25 hf
  have hC : Tryz.prog.cellsOf 25 = 3 := by kernel_rfl
  rw [hC] at hcl
  have hcs : (Value.agg cs).cells.toList = cs.toList := rfl
  rw [hcs] at hcl hg
  obtain ⟨cl⟩ := cs
  simp only [] at hcl hg
  match cl, hcl with
  | [c0, c1, c2], _ =>
    match ys, hyl with
    | [y0, y1, y2], _ =>
      have g0 : DataW.trod enc Tryz.prog w base (fun _ => true) held m 3 [c0] = some y0 := hg 0 _ rfl
      have g1 : DataW.trod enc Tryz.prog w base (fun _ => true) held m 22 [c1] = some y1 := hg 1 _ rfl
      have g2 : DataW.trod enc Tryz.prog w base (fun _ => true) held m 23 [c2] = some y2 := hg 2 _ rfl
      obtain ⟨k, e0, rfl, w0⟩ := DataW.trod_int Tryz.underlying3 g0
      injection e0 with e0; subst e0
      obtain ⟨AC, nC, cC, rfl⟩ : ∃ A n' c', c1 = .slice A n' c' := by
        rcases open_slice Tryz.underlying22 g1 with ⟨e, _⟩ | ⟨a, len, cap, m, q, D, Pl, e, _⟩
        · simp only [List.cons.injEq, and_true] at e; exact ⟨_, _, _, e⟩
        · simp only [List.cons.injEq, and_true] at e; exact ⟨_, _, _, e⟩
      obtain ⟨AV, nV, cV, rfl⟩ : ∃ A n' c', c2 = .slice A n' c' := by
        rcases open_slice Tryz.underlying23 g2 with ⟨e, _⟩ | ⟨a, len, cap, m, q, D, Pl, e, _⟩
        · simp only [List.cons.injEq, and_true] at e; exact ⟨_, _, _, e⟩
        · simp only [List.cons.injEq, and_true] at e; exact ⟨_, _, _, e⟩
      simp only [Prod.mk.injEq] at hx
      have hx1 := hx.1
      have hall : ∀ (jj : Nat) (t : TypeId) (y : DataW H), ([3, 22, 23] : List TypeId)[jj]? = some t → ([DataW.lit (.int .i64 k), y1.1, y2.1] : List (DataW H))[jj]? = some y → (DataW.weightsEach Tryz.prog [t] [y]).all (· ≤ reachBytes) = true := by
        intro jj t y h1 h2
        rw [List.all_eq_true]
        intro q hq
        simp only [DataW.weightsEach, List.append_nil] at hq
        have := List.all_eq_true.1 hsz q (DataW.weights_mem_each ht hd _ (by
          rw [hx1]
          show q ∈ (DataW.agg [DataW.lit (.int .i64 k), y1.1, y2.1] : DataW H).weights Tryz.prog 25
          rw [DataW.weights, Tryz.underlying25]
          exact DataW.weights_mem_each (j := jj) h1 h2 _ hq))
        simpa using this
      obtain ⟨cols, hcols⟩ := cols_of (ts := [22]) (ds := [y1.1]) (j := 0) (A := AC) (n := nC) (c := cC) (p := y1.2) rfl rfl (hall 1 _ _ rfl rfl) ⟨m, g1⟩
      obtain ⟨rs, hrs⟩ := rows_of (ts := [23]) (ds := [y2.1]) (j := 0) (A := AV) (n := nV) (c := cV) (p := y2.2) rfl rfl (hall 2 _ _ rfl rfl) ⟨m, g2⟩
      have hb := bounds_i64 w0
      exact ⟨⟨k, cols, rs.map (·.vs)⟩, AC, nC, cC, AV, nV, cV, rs, rfl, hb.1, by simp only []; omega, hcols, hrs, rfl⟩
end
end Go.Proofs.YtgmemdedpklnhaaGreat.Sl

/-
  SLICES THAT THE CALL OWNS: numbers, values; what stays while another row is written.
-/






namespace Go.Proofs.YtgmemdedpklnhaaGreat
open Go.RowKit ValMath

theorem info_int : (Tryz.prog.info? 3).map (fun i => (i.zero, i.size, i.bytes)) = some (some (.int .i64 0), 1, 8) := by kernel_rfl
theorem info_u8 : (Tryz.prog.info? 5).map (fun i => (i.zero, i.size, i.bytes)) = some (some (.int .u8 0), 1, 1) := by kernel_rfl
theorem info_val : (Tryz.prog.info? 71).map (fun i => (i.zero, i.size, i.bytes)) = some (some (.agg #[.int .i64 0, .int .i64 0, .bool false, .string { data := #[] }]), 4, 40) := by kernel_rfl

/-- Numbers' cells. -/
def icells (xs : List Int) : List Value := xs.map (Value.int .i64)
/-- Values' cells. -/
def vscells (vs : List Val) : List Value := vs.flatMap vcells

theorem icells_length (xs : List Int) : (icells xs).length = xs.length := by simp [icells]
theorem vscells_length (vs : List Val) : (vscells vs).length = vs.length * 4 := by
  induction vs with
  | nil => rfl
  | cons v vs ih => simp only [vscells, List.flatMap_cons, List.length_append] at ih ⊢; rw [ih]; simp [vcells]; omega
theorem icells_append (xs ys : List Int) : icells (xs ++ ys) = icells xs ++ icells ys := by simp [icells]
theorem vscells_append (xs ys : List Val) : vscells (xs ++ ys) = vscells xs ++ vscells ys := by simp [vscells]
theorem vscells_one (v : Val) : vscells [v] = [.int .i64 v.k, .int .i64 v.i, .bool v.b, .string v.s] := by simp [vscells, vcells]
theorem vscells_at (vs : List Val) (i j : Nat) (hi : i < vs.length) (hj : j < 4) : (vscells vs)[i * 4 + j]? = (vcells vs[i])[j]? := by
  induction vs generalizing i with
  | nil => simp at hi
  | cons v vs ih =>
    have hl : (vcells v).length = 4 := rfl
    simp only [vscells, List.flatMap_cons] at ih ⊢
    cases i with
    | zero => rw [List.getElem?_append_left (by omega)]; simp
    | succ i =>
      rw [List.getElem?_append_right (by omega), hl, show (i + 1) * 4 + j - 4 = i * 4 + j by omega]
      simpa using ih i (by simpa using hi)

/-- The call owns a row of numbers; of values. -/
def OwnI (w : World) (B : Nat) (v : Value) (xs : List Int) : Prop := w.ownsRow B 3 1 v xs.length (icells xs)
def OwnV (w : World) (B : Nat) (v : Value) (vs : List Val) : Prop := w.ownsRow B 71 4 v vs.length (vscells vs)

theorem OwnI.nil (w : World) (B : Nat) : OwnI w B (.slice none 0 0) [] := World.ownsRow_nil _ _ _ _
theorem OwnV.nil (w : World) (B : Nat) : OwnV w B (.slice none 0 0) [] := World.ownsRow_nil _ _ _ _

/-- Rows of different element types never share a block. -/
theorem own_ne {w : World} {B B' : Nat} {e e' : TypeId} {z z' n n' : Nat} {v v' : Value} {xs xs' : List Value} (h : w.ownsRow B e z v n xs) (h' : w.ownsRow B' e' z' v' n' xs') (hne : e ≠ e') :
    v.ownBlock = none ∨ v.ownBlock ≠ v'.ownBlock := by
  rcases h.2 with ⟨rfl, _⟩ | ⟨g, c, cur, rfl, _, hg, _⟩
  · exact .inl rfl
  · right
    rcases h'.2 with ⟨rfl, _⟩ | ⟨g', c', cur', rfl, _, hg', _⟩
    · simp [Value.ownBlock]
    · intro he
      have : g = g' := by simpa [Value.ownBlock] using he
      subst this
      rw [hg] at hg'
      injection hg' with hg'
      injection hg' with _ h2
      exact hne h2

theorem OwnI.keepV {w w' : World} {B : Nat} {v u : Value} {xs : List Int} {vs : List Val} (h : OwnI w B v xs) (hu : OwnV w B u vs) (hg : w.grownBy w' u.ownBlock) : OwnI w' B v xs :=
  World.ownsRow.kept h hg (own_ne h hu (by decide))
theorem OwnV.keepI {w w' : World} {B : Nat} {v u : Value} {xs : List Val} {vs : List Int} (h : OwnV w B v xs) (hu : OwnI w B u vs) (hg : w.grownBy w' u.ownBlock) : OwnV w' B v xs :=
  World.ownsRow.kept h hg (own_ne h hu (by decide))
theorem OwnI.alloc {w : World} {B : Nat} {v : Value} {xs : List Int} (h : OwnI w B v xs) (o : Obj) : OwnI (w.alloc o) B v xs := World.ownsRow.alloc h o
theorem OwnV.alloc {w : World} {B : Nat} {v : Value} {xs : List Val} (h : OwnV w B v xs) (o : Obj) : OwnV (w.alloc o) B v xs := World.ownsRow.alloc h o
theorem OwnI.drewN {w : World} {B : Nat} {v : Value} {xs : List Int} (h : OwnI w B v xs) (k : Nat) : OwnI (w.drewN k) B v xs := h
theorem OwnV.drewN {w : World} {B : Nat} {v : Value} {xs : List Val} (h : OwnV w B v xs) (k : Nat) : OwnV (w.drewN k) B v xs := h

theorem OwnI.drew {w : World} {B : Nat} {v : Value} {xs : List Int} (h : OwnI w B v xs) : OwnI w.drew B v xs := h
theorem OwnV.drew {w : World} {B : Nat} {v : Value} {xs : List Val} (h : OwnV w B v xs) : OwnV w.drew B v xs := h

/-- Kept where nothing below the heap's size has turned. -/
theorem own_below {w w' : World} {B : Nat} {e : TypeId} {z n : Nat} {v : Value} {xs : List Value} (h : w.ownsRow B e z v n xs) (hb : Below w.heap.size w w') : w'.ownsRow B e z v n xs := by
  refine ⟨h.1, ?_⟩
  rcases h.2 with h0 | ⟨g, c, cur, hv, hB, hg, h1⟩
  · exact .inl h0
  · right
    refine ⟨g, c, cur, hv, hB, ?_, h1⟩
    have hlt : g < w.heap.size := by
      rcases Nat.lt_or_ge g w.heap.size with h | h
      · exact h
      · rw [Array.getElem?_eq_none h] at hg; cases hg
    rw [hb.block g hlt, hg]
theorem OwnI.below {w w' : World} {B : Nat} {v : Value} {xs : List Int} (h : OwnI w B v xs) (hb : Below w.heap.size w w') : OwnI w' B v xs := own_below h hb
theorem OwnV.below {w w' : World} {B : Nat} {v : Value} {xs : List Val} (h : OwnV w B v xs) (hb : Below w.heap.size w w') : OwnV w' B v xs := own_below h hb

/-- A store into a block that is another's. -/
theorem own_set {w : World} {B : Nat} {e : TypeId} {z n : Nat} {v : Value} {xs : List Value} (h : w.ownsRow B e z v n xs) {p : Addr} (hp : v.ownBlock ≠ some p.block) (u : Value) : (w.setCell p u).ownsRow B e z v n xs := by
  refine ⟨h.1, ?_⟩
  rcases h.2 with h0 | ⟨g, c, cur, hv, hB, hg, h1⟩
  · exact .inl h0
  · right
    refine ⟨g, c, cur, hv, hB, ?_, h1⟩
    rw [Below.heap_setCell w p u g (by intro he; subst hv; exact hp (by rw [← he]; rfl)), hg]


theorem OwnV.form {w : World} {B : Nat} {v : Value} {vs : List Val} (h : OwnV w B v vs) : ∃ A c, v = .slice A vs.length c ∧ Vals.VSl w A vs.length vs ∧ c ≤ maxLen := by
  rcases h.2 with ⟨rfl, h0⟩ | ⟨g, c, cur, rfl, _, hg, hnc, hcm, _⟩
  · have : vs = [] := List.eq_nil_of_length_eq_zero h0
    subst this
    exact ⟨none, 0, rfl, Vals.VSl.none_ w, by unfold maxLen; omega⟩
  · refine ⟨_, c, rfl, ⟨rfl, fun _ => ⟨g, 0, rfl, ?_, fun i hi => ?_⟩⟩, hcm⟩
    · rcases Nat.lt_or_ge g w.heap.size with h | h
      · exact h
      · rw [Array.getElem?_eq_none h] at hg; cases hg
    · have hc := fun j hj => (World.ownsRow.cellAt h (i * 4 + j) (by omega : i * 4 + j < vs.length * 4)).trans (vscells_at vs i j hi hj)
      refine ⟨?_, ?_, ?_, ?_⟩
      · have := hc 0 (by omega); simpa [vcells] using this
      · have := hc 1 (by omega); simpa [vcells] using this
      · have := hc 2 (by omega); simpa [vcells] using this
      · have := hc 3 (by omega); simpa [vcells] using this

theorem OwnI.form {w : World} {B : Nat} {v : Value} {xs : List Int} (h : OwnI w B v xs) {n : Nat} (hn : xs.length = n) :
    ∃ A c, v = .slice A n c ∧ c ≤ maxLen ∧ n ≤ c ∧ (0 < n → ∃ g, A = some ⟨g, 0, none⟩ ∧ B ≤ g ∧ g < w.heap.size ∧ (∀ j, w.frozen? ⟨g, j, none⟩ = false) ∧ ∀ i (hi : i < xs.length), w.cell? ⟨g, i, none⟩ = some (.int .i64 xs[i])) := by
  subst hn
  rcases h.2 with ⟨rfl, h0⟩ | ⟨g, c, cur, rfl, hB, hg, hnc, hcm, _⟩
  · exact ⟨none, 0, by rw [h0], by unfold maxLen; omega, by omega, fun h => by omega⟩
  · refine ⟨_, c, rfl, hcm, hnc, fun _ => ⟨g, rfl, hB, ?_, fun j => World.ownsRow.frozenAt h j, fun i hi => ?_⟩⟩
    · rcases Nat.lt_or_ge g w.heap.size with h | h
      · exact h
      · rw [Array.getElem?_eq_none h] at hg; cases hg
    · rw [World.ownsRow.cellAt h i (by omega)]
      simp [icells, hi]

theorem OwnV.form' {w : World} {B : Nat} {v : Value} {vs : List Val} (h : OwnV w B v vs) {n : Nat} (hn : vs.length = n) : ∃ A c, v = .slice A n c ∧ Vals.VSl w A n vs ∧ c ≤ maxLen := by
  subst hn; exact h.form

/-! ### A value in a block of its own -/
def Box (w : World) (g : Nat) (u : Val) : Prop := w.heap[g]? = some (.cells #[.int .i64 u.k, .int .i64 u.i, .bool u.b, .string u.s] 71 (0, 0))

theorem Box.lt {w : World} {g : Nat} {u : Val} (h : Box w g u) : g < w.heap.size := by
  rcases Nat.lt_or_ge g w.heap.size with h1 | h1
  · exact h1
  · unfold Box at h; rw [Array.getElem?_eq_none h1] at h; cases h
theorem Box.new (w : World) (u : Val) : Box (w.alloc (.cells #[.int .i64 u.k, .int .i64 u.i, .bool u.b, .string u.s] 71)) w.heap.size u := heap_alloc_new w _
theorem Box.below {w w' : World} {g : Nat} {u : Val} (h : Box w g u) (hb : Below w.heap.size w w') : Box w' g u := (hb.block g h.lt).trans h
theorem Box.grown {w w' : World} {g : Nat} {u : Val} {row : Option Nat} (h : Box w g u) (hb : w.grownBy w' row) (hr : some g ≠ row) : Box w' g u := (hb.block g h.lt hr).trans h
theorem Box.alloc {w : World} {g : Nat} {u : Val} (h : Box w g u) (o : Obj) : Box (w.alloc o) g u := (Below.heap_alloc w o g h.lt).trans h
theorem Box.drewN {w : World} {g : Nat} {u : Val} (h : Box w g u) (k : Nat) : Box (w.drewN k) g u := h
theorem Box.drew {w : World} {g : Nat} {u : Val} (h : Box w g u) : Box w.drew g u := h
theorem Box.cells {w : World} {g : Nat} {u : Val} (h : Box w g u) : w.cell? ⟨g, 0, none⟩ = some (.int .i64 u.k) ∧ w.cell? ⟨g, 1, none⟩ = some (.int .i64 u.i) ∧ w.cell? ⟨g, 2, none⟩ = some (.bool u.b) ∧ w.cell? ⟨g, 3, none⟩ = some (.string u.s) := by
  refine ⟨?_, ?_, ?_, ?_⟩ <;> rw [cell_of_row w g _ _ _ _ h] <;> rfl
theorem Box.free {w : World} {g : Nat} {u : Val} (h : Box w g u) (j : Nat) : w.frozen? ⟨g, j, none⟩ = false := frozen_of_row w g j _ _ h
/-- A whole value stored into such a block. -/
theorem wpList_store_val {w : World} {ops : Array Oper} {rest : List Oper} {o : Oper} {a : Act} {Q : Exit → Act → World → Prop} (hgd : o.guard = none) (x y : Operand) (ho : o.op = .store 71 x y)
    (g : Nat) (u old : Val) (hx : a.eval x = .pointer (some ⟨g, 0, none⟩)) (hy : a.eval y = vagg u) (hg : Box w g old)
    (h : ∀ wq, Box wq g u → w.grownBy wq (some g) → wq.heap.size = w.heap.size → wpList Tryz.prog ops Q rest (a.put o.dst undef) wq) : wpList Tryz.prog ops Q (o :: rest) a w := by
  have hi : (Tryz.prog.info? 71).map (·.size) = some 4 := by kernel_rfl
  refine wpList_store_row hgd 71 x y ho g #[.int .i64 u.k, .int .i64 u.i, .bool u.b, .string u.s] hx hy 71 _ hg hi rfl (by simp [Value.oneCell']) ?_
  refine h _ (heap_setRow_same _ _ _ _ _ _ hg) ⟨rfl, rfl, rfl, by simp, fun k _ hne => setRow_other w g k _ (fun e => hne (by rw [e]))⟩ (by simp)

theorem OwnI.keepB {w w' : World} {B g : Nat} {v : Value} {xs : List Int} (h : OwnI w B v xs) (hg : w.grownBy w' (some g)) (hne : v.ownBlock ≠ some g) : OwnI w' B v xs := World.ownsRow.kept h hg (.inr hne)
theorem OwnV.keepB {w w' : World} {B g : Nat} {v : Value} {xs : List Val} (h : OwnV w B v xs) (hg : w.grownBy w' (some g)) (hne : v.ownBlock ≠ some g) : OwnV w' B v xs := World.ownsRow.kept h hg (.inr hne)
theorem own_lt {w : World} {B z n : Nat} {e : TypeId} {v : Value} {xs : List Value} (h : w.ownsRow B e z v n xs) {g : Nat} (hg : w.heap.size ≤ g) : v.ownBlock ≠ some g := by
  intro he; have := (World.ownsRow.lt h g he).2; omega

/-! ### One more at the end of a row that the call owns -/
def few : Nat := 3518437208882
section
variable {w : World} {ops : Array Oper} {rest : List Oper} {o : Oper} {a : Act} {K : Act → World → Prop} {Q : Exit → Act → World → Prop} {E : Prop}
theorem run_push_int (B : Nat) (ty : TypeId) (v : Value) (xs : List Int) (y : Int) (g c : Nat) {t : TypeId} {fr : Nat × Nat} (hg : w.heap[g]? = some (.cells #[.int .i64 y] t fr)) (hown : OwnI w B v xs) (hl : xs.length < few) (hB : B ≤ w.heap.size) :
    ∃ u wA, (Builtin.append_ #[108, 108] ty #[v, .slice (some ⟨g, 0, none⟩) 1 c]).run Tryz.prog w = .ok u wA ∧ OwnI wA B u (xs ++ [y]) ∧ w.grownBy wA v.ownBlock ∧ (u.ownBlock = v.ownBlock ∨ u.ownBlock = some w.heap.size) := by
  obtain ⟨i0, hi, hz, hs, hb⟩ := info_parts info_int
  unfold few at hl
  obtain ⟨u, wA, h1, h2, h3, _, h5⟩ := run_append_own_at (P := Tryz.prog) w B 108 ty 3 i0 _ 1 8 Tryz.underlying108 hi hz hs hb rfl (by omega) v xs.length (icells xs) hown ⟨g, 0, none⟩ 1 c [.int .i64 y] rfl
    (World.news_of_block (cs := #[.int .i64 y]) hg) (by simp [Value.oneCell']) (by unfold maxLen; omega) (by omega) hB
  exact ⟨u, wA, h1, by unfold OwnI; rw [icells_append, List.length_append]; exact h2, h3, h5⟩
theorem run_push_val (B : Nat) (ty : TypeId) (v : Value) (xs : List Val) (y : Val) (g c : Nat) {t : TypeId} {fr : Nat × Nat} (hg : w.heap[g]? = some (.cells #[.int .i64 y.k, .int .i64 y.i, .bool y.b, .string y.s] t fr)) (hown : OwnV w B v xs) (hl : xs.length < few) (hB : B ≤ w.heap.size) :
    ∃ u wA, (Builtin.append_ #[65, 65] ty #[v, .slice (some ⟨g, 0, none⟩) 1 c]).run Tryz.prog w = .ok u wA ∧ OwnV wA B u (xs ++ [y]) ∧ w.grownBy wA v.ownBlock ∧ (u.ownBlock = v.ownBlock ∨ u.ownBlock = some w.heap.size) := by
  obtain ⟨i0, hi, hz, hs, hb⟩ := info_parts info_val
  unfold few at hl
  obtain ⟨u, wA, h1, h2, h3, _, h5⟩ := run_append_own_at (P := Tryz.prog) w B 65 ty 71 i0 _ 4 40 Tryz.underlying65 hi hz hs hb rfl (by omega) v xs.length (vscells xs) hown ⟨g, 0, none⟩ 1 c [.int .i64 y.k, .int .i64 y.i, .bool y.b, .string y.s] rfl
    (World.news_of_block (cs := #[.int .i64 y.k, .int .i64 y.i, .bool y.b, .string y.s]) hg) (by simp [Value.oneCell']) (by unfold maxLen; omega) (by omega) hB
  exact ⟨u, wA, h1, by unfold OwnV; rw [vscells_append, vscells_one, List.length_append]; exact h2, h3, h5⟩

theorem wp_push_int (s x : Operand) (ho : o.op = .call { callee := .builtin .append, args := #[s, x], argTypes := #[108, 108] }) (B : Nat) (v : Value) (xs : List Int) (y : Int) (g c : Nat)
    (hs : a.eval s = v) (hx : a.eval x = .slice (some ⟨g, 0, none⟩) 1 c) {t : TypeId} {fr : Nat × Nat} (hg : w.heap[g]? = some (.cells #[.int .i64 y] t fr)) (hown : OwnI w B v xs) (hl : xs.length < few) (hB : B ≤ w.heap.size)
    (h : ∀ u wA, OwnI wA B u (xs ++ [y]) → w.grownBy wA v.ownBlock → (u.ownBlock = v.ownBlock ∨ u.ownBlock = some w.heap.size) → K (a.put o.dst u) wA) : o.wp Tryz.prog a w K Q := by
  obtain ⟨u, wA, hr, h2, h3, h4⟩ := run_push_int B o.type v xs y g c hg hown hl hB
  unfold Oper.wp execOp
  simp only [ho, resolve, invoke, builtin, Sem.run_bind, Sem.run_pure, Result.andThen_ok, List.map_toArray, List.map_cons, List.map_nil, hs, hx, hr]
  exact h u wA h2 h3 h4
theorem wp_push_val (s x : Operand) (ho : o.op = .call { callee := .builtin .append, args := #[s, x], argTypes := #[65, 65] }) (B : Nat) (v : Value) (xs : List Val) (y : Val) (g c : Nat)
    (hs : a.eval s = v) (hx : a.eval x = .slice (some ⟨g, 0, none⟩) 1 c) {t : TypeId} {fr : Nat × Nat} (hg : w.heap[g]? = some (.cells #[.int .i64 y.k, .int .i64 y.i, .bool y.b, .string y.s] t fr)) (hown : OwnV w B v xs) (hl : xs.length < few) (hB : B ≤ w.heap.size)
    (h : ∀ u wA, OwnV wA B u (xs ++ [y]) → w.grownBy wA v.ownBlock → (u.ownBlock = v.ownBlock ∨ u.ownBlock = some w.heap.size) → K (a.put o.dst u) wA) : o.wp Tryz.prog a w K Q := by
  obtain ⟨u, wA, hr, h2, h3, h4⟩ := run_push_val B o.type v xs y g c hg hown hl hB
  unfold Oper.wp execOp
  simp only [ho, resolve, invoke, builtin, Sem.run_bind, Sem.run_pure, Result.andThen_ok, List.map_toArray, List.map_cons, List.map_nil, hs, hx, hr]
  exact h u wA h2 h3 h4

theorem wpList_push_int (hgd : o.guard = none) (s x : Operand) (ho : o.op = .call { callee := .builtin .append, args := #[s, x], argTypes := #[108, 108] }) (B : Nat) (v : Value) (xs : List Int) (y : Int) (g c : Nat)
    (hs : a.eval s = v) (hx : a.eval x = .slice (some ⟨g, 0, none⟩) 1 c) {t : TypeId} {fr : Nat × Nat} (hg : w.heap[g]? = some (.cells #[.int .i64 y] t fr)) (hown : OwnI w B v xs) (hl : xs.length < few) (hB : B ≤ w.heap.size)
    (h : ∀ u wA, OwnI wA B u (xs ++ [y]) → w.grownBy wA v.ownBlock → (u.ownBlock = v.ownBlock ∨ u.ownBlock = some w.heap.size) → wpList Tryz.prog ops Q rest (a.put o.dst u) wA) : wpList Tryz.prog ops Q (o :: rest) a w :=
  wpList_plain hgd fun _ hK => wp_push_int s x ho B v xs y g c hs hx hg hown hl hB fun u wA h2 h3 h4 => hK _ _ (h u wA h2 h3 h4)
theorem wpList_push_val (hgd : o.guard = none) (s x : Operand) (ho : o.op = .call { callee := .builtin .append, args := #[s, x], argTypes := #[65, 65] }) (B : Nat) (v : Value) (xs : List Val) (y : Val) (g c : Nat)
    (hs : a.eval s = v) (hx : a.eval x = .slice (some ⟨g, 0, none⟩) 1 c) {t : TypeId} {fr : Nat × Nat} (hg : w.heap[g]? = some (.cells #[.int .i64 y.k, .int .i64 y.i, .bool y.b, .string y.s] t fr)) (hown : OwnV w B v xs) (hl : xs.length < few) (hB : B ≤ w.heap.size)
    (h : ∀ u wA, OwnV wA B u (xs ++ [y]) → w.grownBy wA v.ownBlock → (u.ownBlock = v.ownBlock ∨ u.ownBlock = some w.heap.size) → wpList Tryz.prog ops Q rest (a.put o.dst u) wA) : wpList Tryz.prog ops Q (o :: rest) a w :=
  wpList_plain hgd fun _ hK => wp_push_val s x ho B v xs y g c hs hx hg hown hl hB fun u wA h2 h3 h4 => hK _ _ (h u wA h2 h3 h4)

theorem step_push_int (hgd : o.guard = none) (s x : Operand) (ho : o.op = .call { callee := .builtin .append, args := #[s, x], argTypes := #[108, 108] }) (B : Nat) (v : Value) (xs : List Int) (y : Int) (g c : Nat)
    (hs : a.eval s = v) (hx : a.eval x = .slice (some ⟨g, 0, none⟩) 1 c) {t : TypeId} {fr : Nat × Nat} (hg : w.heap[g]? = some (.cells #[.int .i64 y] t fr)) (hown : OwnI w B v xs) (hl : xs.length < few) (hB : B ≤ w.heap.size)
    (h : ∀ u wA, OwnI wA B u (xs ++ [y]) → w.grownBy wA v.ownBlock → (u.ownBlock = v.ownBlock ∨ u.ownBlock = some w.heap.size) → K (a.put o.dst u) wA) : if Region.wanted o (yielded ops a.tmps) = true then Oper.wp Tryz.prog o a w K Q else E := by
  rw [if_pos (by simp [Region.wanted, hgd])]
  exact wp_push_int s x ho B v xs y g c hs hx hg hown hl hB h
theorem step_push_val (hgd : o.guard = none) (s x : Operand) (ho : o.op = .call { callee := .builtin .append, args := #[s, x], argTypes := #[65, 65] }) (B : Nat) (v : Value) (xs : List Val) (y : Val) (g c : Nat)
    (hs : a.eval s = v) (hx : a.eval x = .slice (some ⟨g, 0, none⟩) 1 c) {t : TypeId} {fr : Nat × Nat} (hg : w.heap[g]? = some (.cells #[.int .i64 y.k, .int .i64 y.i, .bool y.b, .string y.s] t fr)) (hown : OwnV w B v xs) (hl : xs.length < few) (hB : B ≤ w.heap.size)
    (h : ∀ u wA, OwnV wA B u (xs ++ [y]) → w.grownBy wA v.ownBlock → (u.ownBlock = v.ownBlock ∨ u.ownBlock = some w.heap.size) → K (a.put o.dst u) wA) : if Region.wanted o (yielded ops a.tmps) = true then Oper.wp Tryz.prog o a w K Q else E := by
  rw [if_pos (by simp [Region.wanted, hgd])]
  exact wp_push_val s x ho B v xs y g c hs hx hg hown hl hB h
end
theorem own_base {w : World} {B z n : Nat} {e : TypeId} {v : Value} {xs : List Value} (h : w.ownsRow B e z v n xs) : ∀ k, v.ownBlock = some k → B ≤ k := fun k hk => (World.ownsRow.lt h k hk).1

end Go.Proofs.YtgmemdedpklnhaaGreat

/-
  LAWS ON append AT A ROW THAT THE CALL OWNS, from whatever slice that reads as values, as numbers; one byte more.
-/




namespace Go.Proofs.YtgmemdedpklnhaaGreat
open Go.RowKit ValMath Vals Sl

def fewI : Nat := 17592186044416
def fewB : Nat := 140737488355328
/-- The call owns a row of bytes. -/
def OwnB (w : World) (B : Nat) (v : Value) (l : List UInt8) : Prop := w.ownsRow B 5 1 v l.length (l.map bv)
theorem OwnB.nil (w : World) (B : Nat) : OwnB w B (.slice none 0 0) [] := World.ownsRow_nil _ _ _ _
theorem OwnB.alloc {w : World} {B : Nat} {v : Value} {xs : List UInt8} (h : OwnB w B v xs) (o : Obj) : OwnB (w.alloc o) B v xs := World.ownsRow.alloc h o
theorem OwnB.drew {w : World} {B : Nat} {v : Value} {xs : List UInt8} (h : OwnB w B v xs) : OwnB w.drew B v xs := h
theorem OwnB.drewN {w : World} {B : Nat} {v : Value} {xs : List UInt8} (h : OwnB w B v xs) (k : Nat) : OwnB (w.drewN k) B v xs := h
theorem OwnB.below {w w' : World} {B : Nat} {v : Value} {xs : List UInt8} (h : OwnB w B v xs) (hb : Below w.heap.size w w') : OwnB w' B v xs := own_below h hb

theorem vscells_one_all (vs : List Val) : ∀ u ∈ vscells vs, u.oneCell' = true := by
  intro u hu
  simp only [vscells, List.mem_flatMap] at hu
  obtain ⟨v, _, hu⟩ := hu
  simp only [vcells, List.mem_cons, List.not_mem_nil, or_false] at hu
  rcases hu with rfl | rfl | rfl | rfl <;> rfl
theorem icells_one_all (xs : List Int) : ∀ u ∈ icells xs, u.oneCell' = true := by
  intro u hu
  simp only [icells, List.mem_map] at hu
  obtain ⟨x, _, rfl⟩ := hu; rfl

/-- The cells of a slice of values, one behind the other. -/
theorem Vals.VSl.news {w : World} {a : Addr} {n : Nat} {vs : List Val} (h : VSl w (some a) n vs) : ∀ j u, (vscells vs)[j]? = some u → w.cell? (a.add j) = some u := by
  intro j u hj
  have hjl : j < (vscells vs).length := by
    rcases Nat.lt_or_ge j (vscells vs).length with h | h
    · exact h
    · rw [List.getElem?_eq_none h] at hj; cases hj
  rw [vscells_length] at hjl
  have hi : j / 4 < vs.length := by omega
  obtain ⟨b, off, hA, _, hc⟩ := h.2 (by rw [← h.1]; omega)
  injection hA with hA; subst hA
  have hr : j % 4 < 4 := Nat.mod_lt _ (by omega)
  have hjj : j / 4 * 4 + j % 4 = j := by omega
  rw [← hjj, vscells_at vs _ _ hi hr] at hj
  obtain ⟨c0, c1, c2, c3⟩ := hc (j / 4) hi
  rw [add_off, ← hjj]
  generalize j % 4 = r at hr hj
  match r, hr with
  | 0, _ => simp only [vcells, List.getElem?_cons_zero, Option.some.injEq] at hj; subst hj; rw [← Nat.add_assoc]; exact c0
  | 1, _ => simp only [vcells, List.getElem?_cons_succ, List.getElem?_cons_zero, Option.some.injEq] at hj; subst hj; rw [← Nat.add_assoc]; exact c1
  | 2, _ => simp only [vcells, List.getElem?_cons_succ, List.getElem?_cons_zero, Option.some.injEq] at hj; subst hj; rw [← Nat.add_assoc]; exact c2
  | 3, _ => simp only [vcells, List.getElem?_cons_succ, List.getElem?_cons_zero, Option.some.injEq] at hj; subst hj; rw [← Nat.add_assoc]; exact c3
where
  add_off {b off j : Nat} : (⟨b, off, none⟩ : Addr).add j = ⟨b, off + j, none⟩ := by
    unfold Addr.add; split
    · rename_i h; rw [h]; rfl
    · rfl
theorem Sl.ISl.news {w : World} {a : Addr} {n : Nat} {xs : List Int} (h : ISl w (some a) n xs) : ∀ j u, (icells xs)[j]? = some u → w.cell? (a.add j) = some u := by
  intro j u hj
  have hjl : j < xs.length := by
    rcases Nat.lt_or_ge j (icells xs).length with h | h
    · rwa [icells_length] at h
    · rw [List.getElem?_eq_none h] at hj; cases hj
  obtain ⟨b, off, hA, _, hc⟩ := h.2 (by rw [← h.1]; omega)
  injection hA with hA; subst hA
  have e : (⟨b, off, none⟩ : Addr).add j = ⟨b, off + j, none⟩ := by
    unfold Addr.add; split
    · rename_i h; rw [h]; rfl
    · rfl
  rw [e, hc j hjl]
  simpa [icells, hjl] using hj

section
variable {w : World} {ops : Array Oper} {rest : List Oper} {o : Oper} {a : Act} {K : Act → World → Prop} {Q : Exit → Act → World → Prop} {E : Prop}

theorem run_pushes_val (B : Nat) (ty : TypeId) (v : Value) (xs ys : List Val) (A : Option Addr) (m c : Nat) (hsrc : VSl w A m ys) (hnil : A = none → m = 0 ∧ c = 0) (hown : OwnV w B v xs) (hl : xs.length + ys.length < few) (hB : B ≤ w.heap.size) :
    ∃ u wA, (Builtin.append_ #[65, 65] ty #[v, .slice A m c]).run Tryz.prog w = .ok u wA ∧ OwnV wA B u (xs ++ ys) ∧ w.grownBy wA v.ownBlock ∧ (u.ownBlock = v.ownBlock ∨ u.ownBlock = some w.heap.size) ∧ (u = .slice none 0 0 ↔ v = .slice none 0 0 ∧ ys = []) := by
  obtain ⟨i0, hi, hz, hs, hb⟩ := info_parts info_val
  unfold few at hl
  cases A with
  | none =>
    obtain ⟨rfl, rfl⟩ := hnil rfl
    have hy : ys = [] := List.eq_nil_of_length_eq_zero hsrc.1
    subst hy
    refine ⟨v, w, run_append_owned_none (P := Tryz.prog) (w := w) B 65 ty 71 i0 4 Tryz.underlying65 hi v xs.length (vscells xs) hown, by rw [List.append_nil]; exact hown, World.grownBy.refl _ _, .inl rfl, by simp⟩
  | some ad =>
    obtain ⟨u, wA, h1, h2, h3, h4, h5⟩ := run_append_own_at (P := Tryz.prog) w B 65 ty 71 i0 _ 4 40 Tryz.underlying65 hi hz hs hb rfl (by omega) v xs.length (vscells xs) hown ad m c (vscells ys) (by rw [vscells_length, hsrc.1])
      hsrc.news (vscells_one_all ys) (by have := hsrc.1; unfold maxLen; omega) (by have := hsrc.1; omega) hB
    refine ⟨u, wA, h1, ?_, h3, h5, ?_⟩
    · unfold OwnV; rw [vscells_append, List.length_append, hsrc.1]; exact h2
    · rw [h4]
      constructor
      · rintro ⟨rfl, rfl⟩; exact ⟨rfl, List.eq_nil_of_length_eq_zero hsrc.1⟩
      · rintro ⟨rfl, rfl⟩; exact ⟨rfl, hsrc.1.symm⟩
theorem run_pushes_int (B : Nat) (ty : TypeId) (v : Value) (xs ys : List Int) (A : Option Addr) (m c : Nat) (hsrc : ISl w A m ys) (hnil : A = none → m = 0 ∧ c = 0) (hown : OwnI w B v xs) (hl : xs.length + ys.length < fewI) (hB : B ≤ w.heap.size) :
    ∃ u wA, (Builtin.append_ #[108, 108] ty #[v, .slice A m c]).run Tryz.prog w = .ok u wA ∧ OwnI wA B u (xs ++ ys) ∧ w.grownBy wA v.ownBlock ∧ (u.ownBlock = v.ownBlock ∨ u.ownBlock = some w.heap.size) ∧ (u = .slice none 0 0 ↔ v = .slice none 0 0 ∧ ys = []) := by
  obtain ⟨i0, hi, hz, hs, hb⟩ := info_parts info_int
  unfold fewI at hl
  cases A with
  | none =>
    obtain ⟨rfl, rfl⟩ := hnil rfl
    have hy : ys = [] := List.eq_nil_of_length_eq_zero hsrc.1
    subst hy
    refine ⟨v, w, run_append_owned_none (P := Tryz.prog) (w := w) B 108 ty 3 i0 1 Tryz.underlying108 hi v xs.length (icells xs) hown, by rw [List.append_nil]; exact hown, World.grownBy.refl _ _, .inl rfl, by simp⟩
  | some ad =>
    obtain ⟨u, wA, h1, h2, h3, h4, h5⟩ := run_append_own_at (P := Tryz.prog) w B 108 ty 3 i0 _ 1 8 Tryz.underlying108 hi hz hs hb rfl (by omega) v xs.length (icells xs) hown ad m c (icells ys) (by rw [icells_length, hsrc.1, Nat.mul_one])
      hsrc.news (icells_one_all ys) (by have := hsrc.1; unfold maxLen; omega) (by have := hsrc.1; omega) hB
    refine ⟨u, wA, h1, ?_, h3, h5, ?_⟩
    · unfold OwnI; rw [icells_append, List.length_append, hsrc.1]; exact h2
    · rw [h4]
      constructor
      · rintro ⟨rfl, rfl⟩; exact ⟨rfl, List.eq_nil_of_length_eq_zero hsrc.1⟩
      · rintro ⟨rfl, rfl⟩; exact ⟨rfl, hsrc.1.symm⟩
theorem run_push_byte (B : Nat) (ty : TypeId) (v : Value) (xs : List UInt8) (y : UInt8) (g c : Nat) {t : TypeId} {fr : Nat × Nat} (hg : w.heap[g]? = some (.cells #[bv y] t fr)) (hown : OwnB w B v xs) (hl : xs.length < fewB) (hB : B ≤ w.heap.size) :
    ∃ u wA, (Builtin.append_ #[54, 54] ty #[v, .slice (some ⟨g, 0, none⟩) 1 c]).run Tryz.prog w = .ok u wA ∧ OwnB wA B u (xs ++ [y]) ∧ w.grownBy wA v.ownBlock ∧ (u.ownBlock = v.ownBlock ∨ u.ownBlock = some w.heap.size) := by
  obtain ⟨i0, hi, hz, hs, hb⟩ := info_parts info_u8
  unfold fewB at hl
  obtain ⟨u, wA, h1, h2, h3, _, h5⟩ := run_append_own_at (P := Tryz.prog) w B 54 ty 5 i0 _ 1 1 Tryz.underlying54 hi hz hs hb rfl (by omega) v xs.length (xs.map bv) hown ⟨g, 0, none⟩ 1 c [bv y] rfl
    (World.news_of_block (cs := #[bv y]) hg) (by simp [bv, Value.oneCell']) (by unfold maxLen; omega) (by omega) hB
  exact ⟨u, wA, h1, by unfold OwnB; rw [List.map_append, List.length_append]; exact h2, h3, h5⟩

theorem wpList_pushes_val (hgd : o.guard = none) (s x : Operand) (ho : o.op = .call { callee := .builtin .append, args := #[s, x], argTypes := #[65, 65] }) (B : Nat) (v : Value) (xs ys : List Val) (A : Option Addr) (m c : Nat)
    (hs : a.eval s = v) (hx : a.eval x = .slice A m c) (hsrc : VSl w A m ys) (hnil : A = none → m = 0 ∧ c = 0) (hown : OwnV w B v xs) (hl : xs.length + ys.length < few) (hB : B ≤ w.heap.size)
    (h : ∀ u wA, OwnV wA B u (xs ++ ys) → w.grownBy wA v.ownBlock → (u.ownBlock = v.ownBlock ∨ u.ownBlock = some w.heap.size) → (u = .slice none 0 0 ↔ v = .slice none 0 0 ∧ ys = []) → wpList Tryz.prog ops Q rest (a.put o.dst u) wA) : wpList Tryz.prog ops Q (o :: rest) a w := by
  refine wpList_plain hgd fun _ hK => ?_
  obtain ⟨u, wA, hr, h2, h3, h4, h5⟩ := run_pushes_val B o.type v xs ys A m c hsrc hnil hown hl hB
  unfold Oper.wp execOp
  simp only [ho, resolve, invoke, builtin, Sem.run_bind, Sem.run_pure, Result.andThen_ok, List.map_toArray, List.map_cons, List.map_nil, hs, hx, hr]
  exact hK _ _ (h u wA h2 h3 h4 h5)
theorem wpList_pushes_int (hgd : o.guard = none) (s x : Operand) (ho : o.op = .call { callee := .builtin .append, args := #[s, x], argTypes := #[108, 108] }) (B : Nat) (v : Value) (xs ys : List Int) (A : Option Addr) (m c : Nat)
    (hs : a.eval s = v) (hx : a.eval x = .slice A m c) (hsrc : ISl w A m ys) (hnil : A = none → m = 0 ∧ c = 0) (hown : OwnI w B v xs) (hl : xs.length + ys.length < fewI) (hB : B ≤ w.heap.size)
    (h : ∀ u wA, OwnI wA B u (xs ++ ys) → w.grownBy wA v.ownBlock → (u.ownBlock = v.ownBlock ∨ u.ownBlock = some w.heap.size) → (u = .slice none 0 0 ↔ v = .slice none 0 0 ∧ ys = []) → wpList Tryz.prog ops Q rest (a.put o.dst u) wA) : wpList Tryz.prog ops Q (o :: rest) a w := by
  refine wpList_plain hgd fun _ hK => ?_
  obtain ⟨u, wA, hr, h2, h3, h4, h5⟩ := run_pushes_int B o.type v xs ys A m c hsrc hnil hown hl hB
  unfold Oper.wp execOp
  simp only [ho, resolve, invoke, builtin, Sem.run_bind, Sem.run_pure, Result.andThen_ok, List.map_toArray, List.map_cons, List.map_nil, hs, hx, hr]
  exact hK _ _ (h u wA h2 h3 h4 h5)
theorem wpList_push_byte (hgd : o.guard = none) (s x : Operand) (ho : o.op = .call { callee := .builtin .append, args := #[s, x], argTypes := #[54, 54] }) (B : Nat) (v : Value) (xs : List UInt8) (y : UInt8) (g c : Nat)
    (hs : a.eval s = v) (hx : a.eval x = .slice (some ⟨g, 0, none⟩) 1 c) {t : TypeId} {fr : Nat × Nat} (hg : w.heap[g]? = some (.cells #[bv y] t fr)) (hown : OwnB w B v xs) (hl : xs.length < fewB) (hB : B ≤ w.heap.size)
    (h : ∀ u wA, OwnB wA B u (xs ++ [y]) → w.grownBy wA v.ownBlock → (u.ownBlock = v.ownBlock ∨ u.ownBlock = some w.heap.size) → wpList Tryz.prog ops Q rest (a.put o.dst u) wA) : wpList Tryz.prog ops Q (o :: rest) a w := by
  refine wpList_plain hgd fun _ hK => ?_
  obtain ⟨u, wA, hr, h2, h3, h4⟩ := run_push_byte B o.type v xs y g c hg hown hl hB
  unfold Oper.wp execOp
  simp only [ho, resolve, invoke, builtin, Sem.run_bind, Sem.run_pure, Result.andThen_ok, List.map_toArray, List.map_cons, List.map_nil, hs, hx, hr]
  exact hK _ _ (h u wA h2 h3 h4)
end

/-- A value's four cells. -/
def At4 (w : World) (b o : Nat) (v : Val) : Prop :=
  w.cell? ⟨b, o, none⟩ = some (.int .i64 v.k) ∧ w.cell? ⟨b, o + 1, none⟩ = some (.int .i64 v.i) ∧ w.cell? ⟨b, o + 2, none⟩ = some (.bool v.b) ∧ w.cell? ⟨b, o + 3, none⟩ = some (.string v.s)
theorem At4.below {w w' : World} {b o B : Nat} {v : Val} (h : At4 w b o v) (hb : Below B w w') (hB : b < B) : At4 w' b o v :=
  ⟨(hb.cell (p := ⟨b, o, none⟩) hB).trans h.1, (hb.cell (p := ⟨b, o + 1, none⟩) hB).trans h.2.1, (hb.cell (p := ⟨b, o + 2, none⟩) hB).trans h.2.2.1, (hb.cell (p := ⟨b, o + 3, none⟩) hB).trans h.2.2.2⟩
theorem At4.zero {w : World} {b : Nat} {v : Val} (h : At4 w b 0 v) : w.cell? ⟨b, 0, none⟩ = some (.int .i64 v.k) ∧ w.cell? ⟨b, 1, none⟩ = some (.int .i64 v.i) ∧ w.cell? ⟨b, 2, none⟩ = some (.bool v.b) ∧ w.cell? ⟨b, 3, none⟩ = some (.string v.s) := h
theorem At4.drew {w : World} {b o : Nat} {v : Val} (h : At4 w b o v) : At4 w.drew b o v := h
theorem At4.drewN {w : World} {b o : Nat} {v : Val} (h : At4 w b o v) (k : Nat) : At4 (w.drewN k) b o v := h
theorem At4.alloc {w : World} {b o : Nat} {v : Val} (h : At4 w b o v) (hb : b < w.heap.size) (x : Obj) : At4 (w.alloc x) b o v := h.below (Vals.one_new x) hb
theorem At4.grown {w w' : World} {b o : Nat} {v : Val} {row : Option Nat} (h : At4 w b o v) (hg : w.grownBy w' row) (hne : some b ≠ row) : At4 w' b o v :=
  ⟨hg.cell h.1 hne, hg.cell h.2.1 hne, hg.cell h.2.2.1 hne, hg.cell h.2.2.2 hne⟩
/-! ### What was read stays while other rows are written -/
theorem Vals.VSl.grown {w w' : World} {A : Option Addr} {n : Nat} {vs : List Val} {row : Option Nat} (h : VSl w A n vs) (hg : w.grownBy w' row) (hr : ∀ b off, A = some ⟨b, off, none⟩ → some b ≠ row) : VSl w' A n vs := by
  refine ⟨h.1, fun hn => ?_⟩
  obtain ⟨b, off, rfl, hlt, hc⟩ := h.2 hn
  have hne := hr b off rfl
  refine ⟨b, off, rfl, Nat.lt_of_lt_of_le hlt hg.size, fun i hi => ?_⟩
  obtain ⟨c0, c1, c2, c3⟩ := hc i hi
  exact ⟨hg.cell c0 hne, hg.cell c1 hne, hg.cell c2 hne, hg.cell c3 hne⟩
theorem Sl.ISl.grown {w w' : World} {A : Option Addr} {n : Nat} {xs : List Int} {row : Option Nat} (h : ISl w A n xs) (hg : w.grownBy w' row) (hr : ∀ b off, A = some ⟨b, off, none⟩ → some b ≠ row) : ISl w' A n xs := by
  refine ⟨h.1, fun hn => ?_⟩
  obtain ⟨b, off, rfl, hlt, hc⟩ := h.2 hn
  exact ⟨b, off, rfl, Nat.lt_of_lt_of_le hlt hg.size, fun i hi => hg.cell (hc i hi) (hr b off rfl)⟩
theorem Vals.VSl.lt {w : World} {A : Option Addr} {n : Nat} {vs : List Val} (h : VSl w A n vs) (hn : 0 < n) : ∀ b off, A = some ⟨b, off, none⟩ → b < w.heap.size := by
  obtain ⟨b, off, rfl, hlt, _⟩ := h.2 hn
  intro b' off' e; injection e with e; injection e with e1; omega
/-- The first values of a slice of values. -/
theorem Vals.VSl.take {w : World} {A : Option Addr} {n m : Nat} {vs : List Val} (h : VSl w A n vs) (hm : m ≤ n) : VSl w A m (vs.take m) := by
  refine ⟨by rw [List.length_take, h.1]; omega, fun hn => ?_⟩
  obtain ⟨b, off, rfl, hlt, hc⟩ := h.2 (by omega)
  refine ⟨b, off, rfl, hlt, fun i hi => ?_⟩
  rw [List.length_take] at hi
  rw [List.getElem_take]
  exact hc i (by omega)
theorem Sl.ISl.take {w : World} {A : Option Addr} {n m : Nat} {xs : List Int} (h : ISl w A n xs) (hm : m ≤ n) : ISl w A m (xs.take m) := by
  refine ⟨by rw [List.length_take, h.1]; omega, fun hn => ?_⟩
  obtain ⟨b, off, rfl, hlt, hc⟩ := h.2 (by omega)
  refine ⟨b, off, rfl, hlt, fun i hi => ?_⟩
  rw [List.length_take] at hi
  rw [List.getElem_take]
  exact hc i (by omega)
theorem OwnI.sl {w : World} {B : Nat} {A : Option Addr} {n c : Nat} {xs : List Int} (h : OwnI w B (.slice A n c) xs) (hn : xs.length = n) : ISl w A n xs := by
  obtain ⟨A', c', e, _, _, hc⟩ := h.form hn
  injection e with e1 e2 e3
  subst e1
  refine ⟨hn, fun h0 => ?_⟩
  obtain ⟨g, hA, _, hlt, _, hcell⟩ := hc h0
  exact ⟨g, 0, hA, hlt, fun i hi => by rw [Nat.zero_add]; exact hcell i hi⟩
theorem OwnV.sl {w : World} {B : Nat} {A : Option Addr} {n c : Nat} {vs : List Val} (h : OwnV w B (.slice A n c) vs) (hn : vs.length = n) : VSl w A n vs := by
  obtain ⟨A', c', e, hs, _⟩ := h.form' hn
  injection e with e1 e2 e3
  subst e1
  exact hs
theorem own_nil_cap {w : World} {B z n : Nat} {e : TypeId} {xs : List Value} {m c : Nat} (h : w.ownsRow B e z (.slice none m c) n xs) : m = 0 ∧ c = 0 := by
  rcases h.2 with ⟨e, _⟩ | ⟨g, c', cur, e, _⟩
  · injection e with _ e2 e3; exact ⟨e2, e3⟩
  · injection e with e1; cases e1
theorem own_base_of {w : World} {B z n : Nat} {e : TypeId} {xs : List Value} {g off m c : Nat} {sp : Option Nat} (h : w.ownsRow B e z (.slice (some ⟨g, off, sp⟩) m c) n xs) : B ≤ g ∧ g < w.heap.size := World.ownsRow.lt h g rfl
theorem own_len {w : World} {B z n : Nat} {e : TypeId} {xs : List Value} {A : Option Addr} {m c : Nat} (h : w.ownsRow B e z (.slice A m c) n xs) : m = n ∧ m ≤ c ∧ c ≤ maxLen := by
  rcases h.2 with ⟨e, h0⟩ | ⟨g, c', cur, e, _, _, h1, h2, _⟩
  · injection e with _ e2 e3; subst e2; subst e3; exact ⟨h0.symm, Nat.le_refl _, by unfold maxLen; omega⟩
  · injection e with _ e2 e3; subst e2; subst e3; exact ⟨rfl, h1, h2⟩
theorem own_lit {w : World} {B z n : Nat} {e : TypeId} {v : Value} {xs : List Value} (h : w.ownsRow B e z v n xs) {m : Nat} (hm : n = m) (hne : v = .slice none 0 0 → False) : ∃ g k, v = .slice (some ⟨g, 0, none⟩) m k := by
  subst hm
  rcases h.2 with ⟨e, _⟩ | ⟨g, k, cur, e, _⟩
  · exact (hne e).elim
  · exact ⟨g, k, e⟩
/-- Two values in a block of their own, one behind the other; one value. -/
theorem Vals.VSl.new1 (w : World) (u : Val) (t : TypeId) : VSl (w.alloc (.cells #[.int .i64 u.k, .int .i64 u.i, .bool u.b, .string u.s] t)) (some ⟨w.heap.size, 0, none⟩) 1 [u] := by
  refine ⟨rfl, fun _ => ⟨w.heap.size, 0, rfl, by simp, fun i hi => ?_⟩⟩
  obtain rfl : i = 0 := by simpa using hi
  have h := heap_alloc_new w (.cells #[.int .i64 u.k, .int .i64 u.i, .bool u.b, .string u.s] t)
  refine ⟨?_, ?_, ?_, ?_⟩ <;> rw [cell_of_row _ _ _ _ _ _ h] <;> rfl
theorem Vals.VSl.new2 (w : World) (u v : Val) (t : TypeId) : VSl (w.alloc (.cells #[.int .i64 u.k, .int .i64 u.i, .bool u.b, .string u.s, .int .i64 v.k, .int .i64 v.i, .bool v.b, .string v.s] t)) (some ⟨w.heap.size, 0, none⟩) 2 [u, v] := by
  have h := heap_alloc_new w (.cells #[.int .i64 u.k, .int .i64 u.i, .bool u.b, .string u.s, .int .i64 v.k, .int .i64 v.i, .bool v.b, .string v.s] t)
  refine ⟨rfl, fun _ => ⟨w.heap.size, 0, rfl, by simp, fun i hi => ?_⟩⟩
  have hi2 : i < 2 := by simpa using hi
  match i, hi2 with
  | 0, _ => refine ⟨?_, ?_, ?_, ?_⟩ <;> rw [cell_of_row _ _ _ _ _ _ h] <;> rfl
  | 1, _ => refine ⟨?_, ?_, ?_, ?_⟩ <;> rw [cell_of_row _ _ _ _ _ _ h] <;> rfl
theorem Vals.VSl.new3 (w : World) (u v x : Val) (t : TypeId) : VSl (w.alloc (.cells #[.int .i64 u.k, .int .i64 u.i, .bool u.b, .string u.s, .int .i64 v.k, .int .i64 v.i, .bool v.b, .string v.s, .int .i64 x.k, .int .i64 x.i, .bool x.b, .string x.s] t)) (some ⟨w.heap.size, 0, none⟩) 3 [u, v, x] := by
  have h := heap_alloc_new w (.cells #[.int .i64 u.k, .int .i64 u.i, .bool u.b, .string u.s, .int .i64 v.k, .int .i64 v.i, .bool v.b, .string v.s, .int .i64 x.k, .int .i64 x.i, .bool x.b, .string x.s] t)
  refine ⟨rfl, fun _ => ⟨w.heap.size, 0, rfl, by simp, fun i hi => ?_⟩⟩
  have hi2 : i < 3 := by simpa using hi
  match i, hi2 with
  | 0, _ => refine ⟨?_, ?_, ?_, ?_⟩ <;> rw [cell_of_row _ _ _ _ _ _ h] <;> rfl
  | 1, _ => refine ⟨?_, ?_, ?_, ?_⟩ <;> rw [cell_of_row _ _ _ _ _ _ h] <;> rfl
  | 2, _ => refine ⟨?_, ?_, ?_, ?_⟩ <;> rw [cell_of_row _ _ _ _ _ _ h] <;> rfl
/-- Numbers in a block of their own. -/
theorem Sl.ISl.new (w : World) (xs : List Int) (t : TypeId) (cs : Array Value) (hcs : cs.toList = icells xs) : ISl (w.alloc (.cells cs t)) (some ⟨w.heap.size, 0, none⟩) xs.length xs := by
  have h := heap_alloc_new w (.cells cs t)
  refine ⟨rfl, fun _ => ⟨w.heap.size, 0, rfl, by simp, fun i hi => ?_⟩⟩
  rw [cell_of_row _ _ _ _ _ _ h, Nat.zero_add, ← Array.getElem?_toList, hcs]
  simp [icells, hi]
theorem Vals.VSl.at1 (w : World) (g : Nat) (hg : w.heap.size = g) (u : Val) (t : TypeId) : VSl (w.alloc (.cells #[.int .i64 u.k, .int .i64 u.i, .bool u.b, .string u.s] t)) (some ⟨g, 0, none⟩) 1 [u] := by subst hg; exact VSl.new1 w u t
theorem Vals.VSl.at2 (w : World) (g : Nat) (hg : w.heap.size = g) (u v : Val) (t : TypeId) : VSl (w.alloc (.cells #[.int .i64 u.k, .int .i64 u.i, .bool u.b, .string u.s, .int .i64 v.k, .int .i64 v.i, .bool v.b, .string v.s] t)) (some ⟨g, 0, none⟩) 2 [u, v] := by subst hg; exact VSl.new2 w u v t
theorem Vals.VSl.at3 (w : World) (g : Nat) (hg : w.heap.size = g) (u v x : Val) (t : TypeId) : VSl (w.alloc (.cells #[.int .i64 u.k, .int .i64 u.i, .bool u.b, .string u.s, .int .i64 v.k, .int .i64 v.i, .bool v.b, .string v.s, .int .i64 x.k, .int .i64 x.i, .bool x.b, .string x.s] t)) (some ⟨g, 0, none⟩) 3 [u, v, x] := by subst hg; exact VSl.new3 w u v x t
theorem Sl.ISl.at_new (w : World) (g : Nat) (hg : w.heap.size = g) (xs : List Int) (t : TypeId) (cs : Array Value) (hcs : cs.toList = icells xs) : ISl (w.alloc (.cells cs t)) (some ⟨g, 0, none⟩) xs.length xs := by subst hg; exact ISl.new w xs t cs hcs
theorem At4.new (w : World) (g : Nat) (hg : w.heap.size = g) (u : Val) (t : TypeId) : At4 (w.alloc (.cells #[.int .i64 u.k, .int .i64 u.i, .bool u.b, .string u.s] t)) g 0 u := by
  subst hg
  have h := heap_alloc_new w (.cells #[.int .i64 u.k, .int .i64 u.i, .bool u.b, .string u.s] t)
  refine ⟨?_, ?_, ?_, ?_⟩ <;> rw [cell_of_row _ _ _ _ _ _ h] <;> rfl
theorem Vals.VSl.alloc {w : World} {A : Option Addr} {n : Nat} {vs : List Val} (h : VSl w A n vs) (o : Obj) : VSl (w.alloc o) A n vs := h.below (Vals.one_new o)
theorem Sl.ISl.alloc {w : World} {A : Option Addr} {n : Nat} {vs : List Int} (h : ISl w A n vs) (o : Obj) : ISl (w.alloc o) A n vs := h.below (Vals.one_new o)
theorem Sl.VArg.below {w w' : World} {A : Option Addr} {n c : Nat} {vs : List Val} (h : VArg w A n c vs) (hb : Below w.heap.size w w') : VArg w' A n c vs := ⟨h.sl.below hb, h.le, h.cap, h.fine, h.nil⟩
theorem Sl.IArg.below {w w' : World} {A : Option Addr} {n c : Nat} {vs : List Int} (h : IArg w A n c vs) (hb : Below w.heap.size w w') : IArg w' A n c vs := ⟨h.sl.below hb, h.le, h.cap, h.fine, h.nil⟩
end Go.Proofs.YtgmemdedpklnhaaGreat

/-
  BITS OF WHOLE NUMBERS as the model's operations give them, as plain arithmetic.
-/


namespace Go.Proofs.YtgmemdedpklnhaaGreat
open Go.RowKit

theorem ofInt_u64' (a : Nat) (ha : a < 18446744073709551616) : (BitVec.ofInt 64 (a : Int)).toNat = a := by
  rw [BitVec.ofInt_natCast, BitVec.toNat_ofNat]; exact Nat.mod_eq_of_lt (by omega)
theorem or_u64 (a b : Nat) (ha : a < 18446744073709551616) (hb : b < 18446744073709551616) : bits .or .u64 (a : Int) (b : Int) = ((a ||| b : Nat) : Int) := by
  have hx : a ||| b < 2 ^ 64 := Nat.or_lt_two_pow (by omega) (by omega)
  show IntKind.u64.wrap ((BitVec.ofInt 64 (a : Int) ||| BitVec.ofInt 64 (b : Int)).toNat : Int) = _
  rw [BitVec.toNat_or, ofInt_u64' a ha, ofInt_u64' b hb, IntKind.wrap_u64]
  omega
theorem and_u64 (a b : Nat) (ha : a < 18446744073709551616) (hb : b < 18446744073709551616) : bits .and .u64 (a : Int) (b : Int) = ((a &&& b : Nat) : Int) := by
  have hx : a &&& b < 2 ^ 64 := Nat.and_lt_two_pow _ (by omega)
  show IntKind.u64.wrap ((BitVec.ofInt 64 (a : Int) &&& BitVec.ofInt 64 (b : Int)).toNat : Int) = _
  rw [BitVec.toNat_and, ofInt_u64' a ha, ofInt_u64' b hb, IntKind.wrap_u64]
  omega
theorem xor_u64 (a b : Nat) (ha : a < 18446744073709551616) (hb : b < 18446744073709551616) : bits .xor .u64 (a : Int) (b : Int) = ((a ^^^ b : Nat) : Int) := by
  have hx : a ^^^ b < 2 ^ 64 := Nat.xor_lt_two_pow (by omega) (by omega)
  show IntKind.u64.wrap ((BitVec.ofInt 64 (a : Int) ^^^ BitVec.ofInt 64 (b : Int)).toNat : Int) = _
  rw [BitVec.toNat_xor, ofInt_u64' a ha, ofInt_u64' b hb, IntKind.wrap_u64]
  omega
theorem or_u8 (a b : Nat) (ha : a < 256) (hb : b < 256) : bits .or .u8 (a : Int) (b : Int) = ((a ||| b : Nat) : Int) := by
  have hx : a ||| b < 2 ^ 8 := Nat.or_lt_two_pow (by omega) (by omega)
  show IntKind.u8.wrap ((BitVec.ofInt 8 (a : Int) ||| BitVec.ofInt 8 (b : Int)).toNat : Int) = _
  rw [BitVec.toNat_or, ofInt_u8 a ha, ofInt_u8 b hb, IntKind.wrap_u8]
  omega
theorem and_u8 (a b : Nat) (ha : a < 256) (hb : b < 256) : bits .and .u8 (a : Int) (b : Int) = ((a &&& b : Nat) : Int) := by
  have hx : a &&& b < 2 ^ 8 := Nat.and_lt_two_pow _ (by omega)
  show IntKind.u8.wrap ((BitVec.ofInt 8 (a : Int) &&& BitVec.ofInt 8 (b : Int)).toNat : Int) = _
  rw [BitVec.toNat_and, ofInt_u8 a ha, ofInt_u8 b hb, IntKind.wrap_u8]
  omega
theorem andNot_i64 (a b : Nat) (ha : a < 9223372036854775808) (hb : b < 9223372036854775808) : bits .andNot .i64 (a : Int) (b : Int) = ((a &&& (18446744073709551615 - b) : Nat) : Int) := by
  have hx : a &&& (18446744073709551615 - b) < 2 ^ 63 := by rw [Nat.and_comm]; exact Nat.and_lt_two_pow _ (by omega)
  show IntKind.i64.wrap ((BitVec.ofInt 64 (a : Int) &&& ~~~BitVec.ofInt 64 (b : Int)).toNat : Int) = _
  rw [BitVec.toNat_and, BitVec.toNat_not, ofInt_i64 a ha, ofInt_i64 b hb, IntKind.wrap_i64, show 2 ^ 64 - 1 - b = 18446744073709551615 - b by omega]
  omega
/-- '^ -1': the opposite, less one. -/
theorem xor_neg1_i64 (a : Int) (h0 : -9223372036854775808 ≤ a) (h1 : a < 9223372036854775808) : bits .xor .i64 a (-1) = -a - 1 := by
  show IntKind.i64.wrap ((BitVec.ofInt 64 a ^^^ BitVec.ofInt 64 (-1)).toNat : Int) = _
  rw [show BitVec.ofInt 64 (-1) = BitVec.allOnes 64 by decide, BitVec.xor_allOnes, BitVec.toNat_not, toNat_ofInt64, IntKind.wrap_i64]
  omega
theorem xor_zero_i64 (a : Int) (h0 : -9223372036854775808 ≤ a) (h1 : a < 9223372036854775808) : bits .xor .i64 a 0 = a := by
  show IntKind.i64.wrap ((BitVec.ofInt 64 a ^^^ BitVec.ofInt 64 0).toNat : Int) = _
  rw [show BitVec.ofInt 64 0 = 0#64 by decide, BitVec.xor_zero, toNat_ofInt64, IntKind.wrap_i64]
  omega
theorem xor_ones_u64 (a : Nat) (ha : a < 18446744073709551616) : bits .xor .u64 (a : Int) 18446744073709551615 = ((18446744073709551615 - a : Nat) : Int) := by
  show IntKind.u64.wrap ((BitVec.ofInt 64 (a : Int) ^^^ BitVec.ofInt 64 18446744073709551615).toNat : Int) = _
  rw [show BitVec.ofInt 64 18446744073709551615 = BitVec.allOnes 64 by decide, BitVec.xor_allOnes, BitVec.toNat_not, ofInt_u64' a ha, IntKind.wrap_u64]
  omega
set_option maxRecDepth 100000 in
theorem or128 (a : Nat) (ha : a < 256) : a ||| 128 = a % 128 + 128 := by
  have : ∀ b : Fin 256, b.val ||| 128 = b.val % 128 + 128 := by decide
  exact this ⟨a, ha⟩
theorem and127 (a : Nat) : a &&& 127 = a % 128 := Nat.and_two_pow_sub_one_eq_mod a 7
theorem and63 (a : Nat) : a &&& 63 = a % 64 := Nat.and_two_pow_sub_one_eq_mod a 6
theorem and1 (a : Nat) : a &&& 1 = a % 2 := Nat.and_one_is_mod a
theorem byte_u8 (a : Nat) : IntKind.u8.wrap (a : Int) = ((a % 256 : Nat) : Int) := by rw [IntKind.wrap_u8]; omega
/-- The low bits of any number of 64 bits. -/
theorem and_low_u64 (a n : Nat) (ha : a < 18446744073709551616) (hn : n < 64) : bits .and .u64 (a : Int) ((2 ^ n - 1 : Nat) : Int) = ((a % 2 ^ n : Nat) : Int) := by
  have hp : 2 ^ n < 2 ^ 64 := Nat.pow_lt_pow_right (by omega) hn
  rw [and_u64 a _ ha (by omega), Nat.and_two_pow_sub_one_eq_mod]
theorem and1_u64 (a : Nat) (ha : a < 18446744073709551616) : bits .and .u64 (a : Int) 1 = ((a % 2 : Nat) : Int) := by
  have := and_u64 a 1 ha (by omega); rw [and1] at this; exact this
theorem and1_i64 (a : Int) : bits .and .i64 a 1 = a % 2 := and_mask_i64 a 1 (by omega)
theorem and127_u8 (a : Nat) (ha : a < 256) : bits .and .u8 (a : Int) 127 = ((a % 128 : Nat) : Int) := by
  have := and_u8 a 127 ha (by omega); rw [and127] at this; exact this
theorem and63_u8 (a : Nat) (ha : a < 256) : bits .and .u8 (a : Int) 63 = ((a % 64 : Nat) : Int) := by
  have := and_u8 a 63 ha (by omega); rw [and63] at this; exact this
set_option maxRecDepth 100000 in
theorem and192_u8 (a : Nat) (ha : a < 256) : bits .and .u8 (a : Int) 192 = ((a / 64 * 64 : Nat) : Int) := by
  have h := and_u8 a 192 ha (by omega)
  have : ∀ b : Fin 256, b.val &&& 192 = b.val / 64 * 64 := by decide
  rw [this ⟨a, ha⟩] at h; exact h
theorem or128_u8 (a : Nat) (ha : a < 256) : bits .or .u8 (a : Int) 128 = ((a % 128 + 128 : Nat) : Int) := by
  have := or_u8 a 128 ha (by omega); rw [or128 a ha] at this; exact this
/-- A byte of a string, at a place that is reckoned. -/
theorem run_at (s : ByteArray) (z : Int) (k : Nat) (hz : z = (k : Nat)) (hk : k < s.size) (W : World) : (Instr.index 9 (.string s) (.int .i64 z)).run Tryz.prog W = .ok (.int .u8 (byteAt s.data.toList k : Nat)) W := by
  subst hz
  rw [run_index_string W _ s .i64 _ Tryz.underlying9, dif_pos (by omega)]
  congr 3
  rw [byteAt_get _ _ (by simpa using hk)]; rfl
end Go.Proofs.YtgmemdedpklnhaaGreat

/-
  THE WALKS of package varint: put, get, Put, Get, Zig, Zag.
-/



namespace Go.Proofs.YtgmemdedpklnhaaGreat.Varint
open Go.RowKit VarMath

theorem put_stop {n z : Nat} (h : z < 128) : put n z = [UInt8.ofNat z] := by
  cases n with
  | zero => rfl
  | succ n => simp [put, h]
theorem put_go {n z : Nat} (h : 128 ≤ z) : put (n + 1) z = UInt8.ofNat (z % 128 + 128) :: put n (z / 128) := by
  simp only [put]; rw [if_neg (by omega)]
theorem bv_nat {x : Nat} (h : x < 256) : bv (UInt8.ofNat x) = .int .u8 (x : Int) := by
  unfold bv; rw [UInt8.toNat_ofNat', Nat.mod_eq_of_lt (by omega)]
/-- What the loop of put holds. -/
def PutAt (x B : Nat) (xv ov : Value) (w wr : World) : Prop := ∃ (n z : Nat) (l : List UInt8), n + l.length = 9 ∧ z < 128 ^ (n + 1) ∧ z < 18446744073709551616 ∧ xv = .int .u64 (z : Nat) ∧ enc x = l ++ put n z ∧ OwnB wr B ov l ∧ Below B w wr

set_option maxRecDepth 20000 in
set_option maxHeartbeats 1000000 in
theorem put_any (x : Nat) (w : World) (hx : x < 18446744073709551616) :
    Calls Tryz.prog 83 #[.int .u64 (x : Nat)] w fun e w' => e = .returned (.string (str (enc x))) ∧ Below w.heap.size w w' := by
  go_enter Tryz.func83, Tryz.ntmps83
  go_wp2
  go_loopw [0, 3] (fun xv ov wr => PutAt x w.heap.size xv ov w wr) (fun xv _ _ => (intOf xv).toNat)
  case atStart => exact ⟨9, x, [], rfl, fits hx, hx, rfl, rfl, OwnB.nil _ _, Below.refl _ _⟩
  case round =>
    obtain ⟨n, z, l, hn, hz, hz2, rfl, hl, hO, hb⟩ := hrel
    have HO := Lib.hid hO; clear hO
    by_cases hlt : z < 128
    · rw [put_stop hlt] at hl
      have HL := Lib.hid hl; clear hl
      have hbv := bv_nat (x := z) (by omega)
      have hw8 : IntKind.u8.wrap (z : Int) = (z : Int) := by rw [IntKind.wrap_u8]; omega
      go_wp2_with (first
        | (refine wpList_push_byte rfl _ _ rfl w.heap.size _ l (UInt8.ofNat z) wr.heap.size 1 rfl rfl (t := 5) (fr := (0, 0)) (by rw [hbv]; exact heap_alloc_new wr _) (HO.out.alloc _) (by unfold fewB; omega) (by have := hb.size; simp; omega) ?_; intro u wA hA hgA hatA; have HA := Lib.hid hA; clear hA)
        | (refine wpList_own_string rfl _ _ 5 _ rfl u rfl w.heap.size (l ++ [UInt8.ofNat z]) HA.out Tryz.underlying54 Tryz.underlying5 Tryz.underlying9 ?_))
      go_ret
      refine ⟨by rw [HL.out]; rfl, ?_⟩
      exact (hb.alloc hb.size _).grown hgA (by have := hb.size; simp; omega) (own_base HO.out)
    · have h1 : n ≠ 0 := by rintro rfl; simp at hz; omega
      obtain ⟨m, rfl⟩ : ∃ m, n = m + 1 := ⟨n - 1, by omega⟩
      rw [put_go (by omega)] at hl
      have hz3 := div_lt_pow hz
      have HL := Lib.hid hl; clear hl
      have HZ := Lib.hid hz3; clear hz3 hz
      have hor := or128_u8 (z % 256) (by omega)
      rw [show z % 256 % 128 = z % 128 by omega, show ((z % 256 : Nat) : Int) = (z : Int) % 256 by omega] at hor
      have hbv := bv_nat (x := z % 128 + 128) (by omega)
      have hcl : z % 128 + 128 < 256 := by omega
      generalize z % 128 + 128 = c at *
      go_wp2_with (first
        | (refine wpList_push_byte rfl _ _ rfl w.heap.size _ l (UInt8.ofNat c) wr.heap.size 1 rfl rfl (t := 5) (fr := (0, 0)) (by rw [hbv]; exact heap_alloc_new wr _) (HO.out.alloc _) (by unfold fewB; omega) (by have := hb.size; simp; omega) ?_; intro u wA hA hgA hatA; have HA := Lib.hid hA; clear hA))
      go_roundw
      case rel => exact ⟨m, z / 128, l ++ [UInt8.ofNat c], by simp; omega, HZ.out, by omega, by go_num, by rw [HL.out]; simp, HA.out, (hb.alloc hb.size _).grown hgA (by have := hb.size; simp; omega) (own_base HO.out)⟩
      case measure => simp [intOf]; omega

theorem drop_at (l : List UInt8) (a j : Nat) : byteAt l (a + j) = byteAt (l.drop a) j := by
  unfold byteAt; rw [List.getD_eq_getElem?_getD, List.getD_eq_getElem?_getD, List.getElem?_drop]
theorem or_part {v j p b : Nat} (hv2 : v < 2 ^ (7 * j)) (hfit : v + 2 ^ (7 * j) * p < 2 ^ b) (hb : b = 63 ∨ b = 64) :
    bits .or .u64 (v : Int) (IntKind.u64.wrap ((p : Int) * 2 ^ (7 * j))) = ((v + 2 ^ (7 * j) * p : Nat) : Int) := by
  rw [IntKind.wrap_u64]
  have h64 : 2 ^ b ≤ 2 ^ 64 := Nat.pow_le_pow_right (by omega) (by omega)
  have e : (p : Int) * 2 ^ (7 * j) % 18446744073709551616 = ((p * 2 ^ (7 * j) : Nat) : Int) := by
    rw [Nat.mul_comm] at hfit
    have : ((p : Int) * 2 ^ (7 * j)) = ((p * 2 ^ (7 * j) : Nat) : Int) := by push_cast; rfl
    rw [this]; omega
  rw [e, or_u64 _ _ (by omega) (by rw [Nat.mul_comm]; omega), or_disjoint hv2]
theorem part_byte (l : List UInt8) (i : Nat) : VarMath.part l i = byteAt l i % 128 := rfl

set_option maxRecDepth 200000 in
set_option maxHeartbeats 4000000 in
theorem get_any (s : ByteArray) (at_ : Int) (b : Nat) (w : World) (hs : s.size ≤ maxReach) (h1 : -9223372036854775808 ≤ at_) (h2 : at_ < 9223372036854775808) (hb : b = 63 ∨ b = 64) :
    Calls Tryz.prog 103 #[.string s, .int .i64 at_, .int .i64 (b : Nat)] w fun e w' => e = .returned (.tuple #[.int .u64 (gNum b s.data.toList at_ : Nat), .int .i64 (gEnd b s.data.toList at_), .int .i64 (gCode b s.data.toList at_)]) ∧ w = w' := by
  unfold maxReach at hs
  have hl : s.data.toList.length = s.size := by simp
  by_cases hout : at_ < 0 ∨ (s.size : Int) < at_
  · obtain ⟨e1, e2, e3⟩ := g_out (bits := b) (l := s.data.toList) (by rw [hl]; exact hout)
    rw [e1, e2, e3]
    clear e1 e2 e3 hl
    go_enter Tryz.func103, Tryz.ntmps103
    by_cases h0 : at_ < 0
    · go_wp2
      go_ret3
      exact ⟨rfl, rfl⟩
    · have h3 : (s.size : Int) < at_ := by omega
      go_wp2
      go_ret3
      exact ⟨rfl, rfl⟩
  obtain ⟨a, rfl⟩ : ∃ a : Nat, at_ = (a : Nat) := ⟨at_.toNat, by omega⟩
  have ha : a ≤ s.size := by omega
  clear h1 h2
  have hdl : (s.data.toList.drop a).length = s.size - a := by rw [List.length_drop, hl]
  obtain ⟨c, hc⟩ : ∃ c, c = cont (s.data.toList.drop a) := ⟨_, rfl⟩
  have hcl := cont_le (s.data.toList.drop a)
  rw [hdl, ← hc] at hcl
  have hge : ∀ j, j < c → 128 ≤ byteAt s.data.toList (a + j) := fun j hj => by
    rw [drop_at]; exact cont_ge (by rw [← hc]; exact hj)
  have hlt : c < s.size - a → byteAt s.data.toList (a + c) < 128 := fun h => by
    have := cont_lt (l := s.data.toList.drop a) (by rw [← hc, hdl]; exact h)
    rw [← hc] at this
    rw [drop_at]; exact this
  have HC := Lib.hid hc; clear hc
  have HG := Lib.hid (And.intro hge hlt); clear hge hlt
  have HDL := Lib.hid (And.intro hl hdl); clear hl hdl hout
  obtain ⟨m, hm⟩ : ∃ m, m = a + c := ⟨_, rfl⟩
  have HM := Lib.hid hm; clear hm
  go_enter Tryz.func103, Tryz.ntmps103
  go_wp2
  have hm1 : m ≤ a + c := by rw [HM.out]; exact Nat.le_refl _
  have hm2 : a + c ≤ m := by rw [HM.out]; exact Nat.le_refl _
  go_loop [9] (fun e => ∃ k : Nat, a ≤ k ∧ k ≤ m ∧ e = .int .i64 k) (fun e => s.size - (intOf e).toNat)
  case atStart => exact ⟨a, Nat.le_refl _, by omega, rfl⟩
  case round =>
    obtain ⟨k, hk0, hk, rfl⟩ := hrel
    by_cases hkm : k < m
    · have hks : k < s.size := by omega
      have hat := run_at s (k : Nat) k rfl hks
      have hx := HG.out.1 (k - a) (by omega)
      rw [show a + (k - a) = k by omega] at hx
      have hxb := byteAt_lt s.data.toList k
      generalize byteAt s.data.toList k = x at hat hx hxb
      go_wp2
      go_round
      case rel => exact ⟨k + 1, by omega, by omega, by go_num⟩
      case measure => simp [intOf]; omega
    · obtain rfl : k = m := by omega
      by_cases hend : c < s.size - a
      · have hks : k < s.size := by omega
        have hat := run_at s (k : Nat) k rfl hks
        have hx := HG.out.2 hend
        rw [← HM.out] at hx
        obtain ⟨x, hxx⟩ : ∃ x, x = byteAt s.data.toList k := ⟨_, rfl⟩
        have hlast : x = ((s.data.toList.drop a).getD (cont (s.data.toList.drop a)) 0).toNat := by
          rw [hxx, HM.out, drop_at, ← HC.out]; rfl
        rw [← hxx] at hat hx
        have HX := Lib.hid (And.intro hxx hlast); clear hxx hlast
        by_cases h9 : 9 < c
        · obtain ⟨e1, e2, e3⟩ := g_form (bits := b) (l := s.data.toList) (a := a) (by rw [HDL.out.1]; exact ha) (by rw [← HC.out, HDL.out.2]; exact hend) (.inl (by rw [← HC.out]; exact h9))
          have HE := Lib.hid (And.intro e1 (And.intro e2 e3))
          clear e1 e2 e3
          go_wp2
          go_ret3
          exact ⟨by rw [HE.out.1, HE.out.2.1, HE.out.2.2]; rfl, rfl⟩
        by_cases h0 : 0 < c ∧ x = 0
        · obtain ⟨h0, hx0⟩ := h0
          obtain ⟨e1, e2, e3⟩ := g_form (bits := b) (l := s.data.toList) (a := a) (by rw [HDL.out.1]; exact ha) (by rw [← HC.out, HDL.out.2]; exact hend) (.inr (.inl ⟨by rw [← HC.out]; exact h0, by rw [← HX.out.2]; exact hx0⟩))
          have HE := Lib.hid (And.intro e1 (And.intro e2 e3))
          clear e1 e2 e3
          subst hx0
          go_wp2
          go_ret3
          exact ⟨by rw [HE.out.1, HE.out.2.1, HE.out.2.2]; rfl, rfl⟩
        · have h09 : c ≤ 9 := by omega
          have hx0 : ¬ (0 < c ∧ x = 0) := h0
          have hcn : c + 1 ≤ (s.data.toList.drop a).length := by rw [HDL.out.2]; omega
          have HCN := Lib.hid hcn; clear hcn
          have hxc : (decide ((1 : Int) < (k : Int) + 1 - (a : Int)) && ((x : Int) == 0)) = false := by
            rcases Nat.eq_zero_or_pos c with h | h
            · subst h; rw [decide_eq_false (by omega)]; rfl
            · have : ((x : Int) == 0) = false := by rw [beq_eq_false_iff_ne]; intro e; exact h0 ⟨h, by omega⟩
              rw [this, Bool.and_false]
          clear h0
          have hc2 : (k : Int) + 1 - (a : Int) ≤ 1 ∨ (0 < c ∧ ((x : Int) == 0) = false) := by
            rcases Nat.eq_zero_or_pos c with h | h
            · exact .inl (by omega)
            · exact .inr ⟨h, by rw [beq_eq_false_iff_ne]; intro e; exact hx0 ⟨h, by omega⟩⟩
          rcases hc2 with hc2 | ⟨hc2, hxz⟩
          all_goals
            go_wp2
            go_loop [11, 56] (fun xv iv => ∃ j : Nat, j ≤ c + 1 ∧ iv = .int .i64 j ∧ xv = .int .u64 (val ((s.data.toList.drop a).take j) : Nat) ∧ val ((s.data.toList.drop a).take j) < 2 ^ b) (fun _ iv => 20 - (intOf iv).toNat)
            case atStart => exact ⟨0, by omega, rfl, rfl, Nat.pow_pos (by omega)⟩
            case round =>
              obtain ⟨j, hj, rfl, rfl, hv⟩ := hrel
              by_cases hjc : j < c + 1
              · have hat2 := run_at s ((a : Int) + (j : Int)) (a + j) (by omega) (by omega)
                have hy := byteAt_lt s.data.toList (a + j)
                have hpt : VarMath.part (s.data.toList.drop a) j = byteAt s.data.toList (a + j) % 128 := by rw [drop_at]; rfl
                have hts := val_take_succ (s.data.toList.drop a) j (Nat.lt_of_lt_of_le hjc HCN.out)
                have hv2 := val_take_lt (s.data.toList.drop a) j
                have hmono := val_take_mono (s.data.toList.drop a) (i := j + 1) (j := c + 1) (by omega)
                rw [pow128] at hv2 hts
                rw [hpt] at hts
                generalize byteAt s.data.toList (a + j) = y at hat2 hy hts
                have hand := and127_u8 y hy
                have hp : y % 128 < 128 := Nat.mod_lt _ (by omega)
                generalize y % 128 = p at hand hp hts
                generalize val ((s.data.toList.drop a).take j) = v at hv hv2 hts ⊢
                have HTS := Lib.hid (And.intro hts hmono); clear hts hpt hmono
                have HV := Lib.hid (And.intro hv hv2); clear hv hv2
                by_cases hA : 7 * j < b
                · by_cases hm : b < 7 * j + 7
                  · by_cases hz : p / 2 ^ (b - 7 * j) = 0
                    · have hfit := fit_step HV.out.1 HV.out.2 (fun _ => by rw [Nat.min_eq_right (by omega)]; exact hz) (fun h => by omega) hp
                      have hor := or_part HV.out.2 hfit hb
                      have hzi : (p : Int) / 2 ^ (b - 7 * j) = 0 := by exact_mod_cast hz
                      have hv64 := HV.out.1
                      have htx := HTS.out.1
                      generalize v + 2 ^ (7 * j) * p = v' at hfit hor htx
                      have HF := Lib.hid (And.intro hfit htx); clear hfit hv64 htx hz
                      go_wp2
                      all_goals
                        go_round
                        case rel => exact ⟨j + 1, by omega, by go_num, by rw [HF.out.2], by rw [HF.out.2]; exact HF.out.1⟩
                        case measure => simp [intOf]; omega
                    · have hnf := fit_not (v := v) (.inl ⟨hA, by rw [Nat.min_eq_right (by omega)]; exact hz⟩) hp
                      have hzi : ¬ (p : Int) / 2 ^ (b - 7 * j) = 0 := by exact_mod_cast hz
                      rw [← HTS.out.1] at hnf
                      obtain ⟨e1, e2, e3⟩ := g_form (bits := b) (l := s.data.toList) (a := a) (by rw [HDL.out.1]; exact ha) (by rw [← HC.out, HDL.out.2]; exact hend) (.inr (.inr (by rw [← HC.out]; exact Nat.le_trans hnf HTS.out.2)))
                      have HE := Lib.hid (And.intro e1 (And.intro e2 e3))
                      clear e1 e2 e3 hnf hz
                      go_wp2
                      all_goals
                        go_ret3
                        exact ⟨by rw [HE.out.1, HE.out.2.1, HE.out.2.2]; rfl, rfl⟩
                  · have hfit := fit_step HV.out.1 HV.out.2 (fun _ => by rw [Nat.min_eq_left (by omega)]; exact Nat.div_eq_of_lt hp) (fun h => by omega) hp
                    have hor := or_part HV.out.2 hfit hb
                    have htx := HTS.out.1
                    generalize v + 2 ^ (7 * j) * p = v' at hfit hor htx
                    have HF := Lib.hid (And.intro hfit htx); clear hfit htx
                    go_wp2
                    all_goals
                      go_round
                      case rel => exact ⟨j + 1, by omega, by go_num, by rw [HF.out.2], by rw [HF.out.2]; exact HF.out.1⟩
                      case measure => simp [intOf]; omega
                · by_cases hp0 : p = 0
                  · subst hp0
                    have hbl : 2 ^ b ≤ 2 ^ 64 := Nat.pow_le_pow_right (by omega) (by omega)
                    have hvv := HV.out.1
                    have hor : bits .or .u64 (v : Int) 0 = (v : Int) := by have := or_u64 v 0 (by omega) (by omega); rw [Nat.or_zero] at this; exact this
                    have htx : val (List.take (j + 1) (List.drop a s.data.toList)) = v := HTS.out.1.trans (by simp)
                    have HF := Lib.hid (And.intro hvv htx); clear hvv htx hbl
                    go_wp2
                    all_goals
                      go_round
                      case rel => exact ⟨j + 1, by omega, by go_num, by rw [HF.out.2], by rw [HF.out.2]; exact HF.out.1⟩
                      case measure => simp [intOf]; omega
                  · have hnf := fit_not (v := v) (i := j) (bits := b) (.inr ⟨by omega, hp0⟩) hp
                    rw [← HTS.out.1] at hnf
                    obtain ⟨e1, e2, e3⟩ := g_form (bits := b) (l := s.data.toList) (a := a) (by rw [HDL.out.1]; exact ha) (by rw [← HC.out, HDL.out.2]; exact hend) (.inr (.inr (by rw [← HC.out]; exact Nat.le_trans hnf HTS.out.2)))
                    have HE := Lib.hid (And.intro e1 (And.intro e2 e3))
                    clear e1 e2 e3 hnf
                    go_wp2
                    all_goals
                      go_ret3
                      exact ⟨by rw [HE.out.1, HE.out.2.1, HE.out.2.2]; rfl, rfl⟩
              · obtain rfl : j = c + 1 := by omega
                obtain ⟨e1, e2, e3⟩ := g_ok (bits := b) (l := s.data.toList) (a := a) (by rw [HDL.out.1]; exact ha) (by rw [← HC.out, HDL.out.2]; exact hend) (by have hq := HX.out.2; rw [← HC.out] at hq ⊢; rw [← hq]; omega)
                rw [← HC.out] at e1 e2
                have HE := Lib.hid (And.intro e1 (And.intro e2 e3))
                clear e1 e2 e3 hv
                go_wp2
                go_ret3
                have hres : gEnd b s.data.toList (a : Nat) = (k : Int) + 1 := by rw [HE.out.2.1]; omega
                refine ⟨?_, rfl⟩
                rw [HE.out.1, hres, HE.out.2.2]; rfl
      · obtain ⟨e1, e2, e3⟩ := g_cut (bits := b) (l := s.data.toList) (a := a) (by rw [HDL.out.1]; exact ha) (by rw [← HC.out, HDL.out.2]; omega)
        have HE := Lib.hid (And.intro e1 (And.intro e2 e3))
        clear e1 e2 e3
        have hks : k = s.size := by omega
        go_wp2
        go_ret3
        exact ⟨by rw [HE.out.1, HE.out.2.1, HE.out.2.2]; rfl, rfl⟩

set_option maxRecDepth 100000 in
set_option maxHeartbeats 1000000 in
theorem Put_any (x : Int) (w : World) (h2 : x < 9223372036854775808) :
    Calls Tryz.prog 56 #[.int .i64 x] w fun e w' => e = .returned (.tuple #[.string (if x < 0 then ⟨#[]⟩ else str (enc x.toNat)), .int .i64 (if x < 0 then 501 else 0)]) ∧ Below w.heap.size w w' := by
  by_cases h0 : x < 0
  · rw [if_pos h0, if_pos h0]
    go_enter Tryz.func56, Tryz.ntmps56
    go_wp2
    go_ret2
    exact ⟨rfl, Below.refl _ _⟩
  · rw [if_neg h0, if_neg h0]
    have H := fun w => put_any x.toNat w (by omega)
    rw [show ((x.toNat : Nat) : Int) = x by omega] at H
    generalize str (enc x.toNat) = S at H
    have HH := Lib.hid H; clear H
    have hw : IntKind.u64.wrap x = x := by rw [IntKind.wrap_u64]; omega
    go_enter Tryz.func56, Tryz.ntmps56
    go_wp2_with (go_at_call 83; with_reducible refine (HH.out _).mono ?_; rintro e w1 ⟨rfl, hb1⟩)
    go_ret2
    exact ⟨rfl, hb1⟩
theorem zig_words (x : Int) (h1 : -9223372036854775808 ≤ x) (h2 : x < 9223372036854775808) :
    bits .xor .u64 (IntKind.u64.wrap (IntKind.u64.wrap x * 2)) (IntKind.u64.wrap (x / 9223372036854775808)) = (zig x : Int) := by
  rw [IntKind.wrap_u64, IntKind.wrap_u64, IntKind.wrap_u64]
  by_cases h : x < 0
  · have e1 : x / 9223372036854775808 % 18446744073709551616 = 18446744073709551615 := by omega
    have e2 : x % 18446744073709551616 * 2 % 18446744073709551616 = ((2 * x + 18446744073709551616).toNat : Int) := by omega
    rw [e1, e2, xor_ones_u64 _ (by omega)]
    unfold zig; rw [if_pos h]; omega
  · have e1 : x / 9223372036854775808 % 18446744073709551616 = ((0 : Nat) : Int) := by omega
    have e2 : x % 18446744073709551616 * 2 % 18446744073709551616 = ((2 * x).toNat : Int) := by omega
    rw [e1, e2, xor_u64 _ _ (by omega) (by omega), Nat.xor_zero]
    unfold zig; rw [if_neg h]; omega
set_option maxRecDepth 100000 in
set_option maxHeartbeats 1000000 in
theorem Zig_any (x : Int) (w : World) (h1 : -9223372036854775808 ≤ x) (h2 : x < 9223372036854775808) :
    Calls Tryz.prog 93 #[.int .i64 x] w fun e w' => e = .returned (.string (str (enc (zig x)))) ∧ Below w.heap.size w w' := by
  have H := fun w => put_any (zig x) w (zig_lt h1 h2)
  have hz := zig_words x h1 h2
  generalize str (enc (zig x)) = S at H ⊢
  generalize (zig x : Int) = z at H hz
  have HH := Lib.hid H; clear H
  clear h1 h2
  go_enter Tryz.func93, Tryz.ntmps93
  go_wp2_with (go_at_call 83; with_reducible refine (HH.out _).mono ?_; rintro e w1 ⟨rfl, hb1⟩)
  go_ret
  exact ⟨rfl, hb1⟩
theorem gNum_63 (l : List UInt8) (at_ : Int) : gNum 63 l at_ < 9223372036854775808 := gNum_lt 63 l at_
theorem gNum_64 (l : List UInt8) (at_ : Int) : gNum 64 l at_ < 18446744073709551616 := gNum_lt 64 l at_
set_option maxRecDepth 100000 in
set_option maxHeartbeats 1000000 in
theorem Get_any (s : ByteArray) (at_ : Int) (w : World) (hs : s.size ≤ maxReach) (h1 : -9223372036854775808 ≤ at_) (h2 : at_ < 9223372036854775808) :
    Calls Tryz.prog 75 #[.string s, .int .i64 at_] w fun e w' => e = .returned (.tuple #[.int .i64 (gNum 63 s.data.toList at_ : Nat), .int .i64 (gEnd 63 s.data.toList at_), .int .i64 (gCode 63 s.data.toList at_)]) ∧ w = w' := by
  have H := fun w => get_any s at_ 63 w hs h1 h2 (.inl rfl)
  simp only [show ((63 : Nat) : Int) = 63 from rfl] at H
  have hx := gNum_63 s.data.toList at_
  generalize gNum 63 s.data.toList at_ = x at H hx ⊢
  generalize gEnd 63 s.data.toList at_ = n at H ⊢
  generalize gCode 63 s.data.toList at_ = c at H ⊢
  have HH := Lib.hid H; clear H
  clear hs h1 h2
  go_enter Tryz.func75, Tryz.ntmps75
  go_wp2_with (go_at_call 103; with_reducible refine (HH.out _).mono ?_; rintro e w1 ⟨rfl, rfl⟩)
  go_ret3
  exact ⟨rfl, rfl⟩
theorem zag_words (x : Nat) (hx : x < 18446744073709551616) : bits .xor .i64 ((x : Int) / 2) (-((x % 2 : Nat) : Int)) = zag x := by
  unfold zag
  by_cases h : x % 2 = 1
  · rw [h, if_pos rfl, show -((1 : Nat) : Int) = -1 from rfl, xor_neg1_i64 _ (by omega) (by omega)]; omega
  · rw [if_neg h, show x % 2 = 0 by omega, show -((0 : Nat) : Int) = 0 from rfl, xor_zero_i64 _ (by omega) (by omega)]; omega
set_option maxRecDepth 100000 in
set_option maxHeartbeats 1000000 in
theorem Zag_any (s : ByteArray) (at_ : Int) (w : World) (hs : s.size ≤ maxReach) (h1 : -9223372036854775808 ≤ at_) (h2 : at_ < 9223372036854775808) :
    Calls Tryz.prog 116 #[.string s, .int .i64 at_] w fun e w' => e = .returned (.tuple #[.int .i64 (zag (gNum 64 s.data.toList at_)), .int .i64 (gEnd 64 s.data.toList at_), .int .i64 (gCode 64 s.data.toList at_)]) ∧ w = w' := by
  have H := fun w => get_any s at_ 64 w hs h1 h2 (.inr rfl)
  simp only [show ((64 : Nat) : Int) = 64 from rfl] at H
  have hx := gNum_64 s.data.toList at_
  generalize gNum 64 s.data.toList at_ = x at H hx ⊢
  generalize gEnd 64 s.data.toList at_ = n at H ⊢
  generalize gCode 64 s.data.toList at_ = c at H ⊢
  have hz := zag_words x hx
  generalize zag x = z at hz ⊢
  have ha := and1_u64 x hx
  have hq : x % 2 < 2 := Nat.mod_lt _ (by omega)
  generalize x % 2 = q at ha hq hz
  have HH := Lib.hid H; clear H
  clear hs h1 h2
  go_enter Tryz.func116, Tryz.ntmps116
  go_wp2_with (go_at_call 103; with_reducible refine (HH.out _).mono ?_; rintro e w1 ⟨rfl, rfl⟩)
  go_ret3
  exact ⟨rfl, rfl⟩
end Go.Proofs.YtgmemdedpklnhaaGreat.Varint

/-
  THE WALK of bitpack.Pack.
-/



namespace Go.Proofs.YtgmemdedpklnhaaGreat.Bitpack
open Go.RowKit BitMath Sl

/-- What the loops of Pack hold: m bytes written, h bits in the window q. -/
def PackAt (w : Nat) (xs : List Int) (m h q : Nat) : Prop := w * xs.length = 8 * m + h ∧ q = all w (nats xs) / 256 ^ m ∧ all w (nats xs) < 2 ^ (w * xs.length) ∧ fit w xs
theorem PackAt.lt {w m h q : Nat} {xs : List Int} (p : PackAt w xs m h q) : q < 2 ^ h := by
  obtain ⟨h1, rfl, h3, _⟩ := p
  have := win_lt (m := m) h3 (by omega)
  rw [show w * xs.length - 8 * m = h by omega] at this; exact this
theorem PackAt.zero (w : Nat) : PackAt w [] 0 0 0 := ⟨by simp, by simp [nats, all], by simp [nats, all], fun x hx => by simp at hx⟩
theorem PackAt.add {w m h q X : Nat} {xs : List Int} (p : PackAt w xs m h q) (hX : X < 2 ^ w) : PackAt w (xs ++ [(X : Int)]) m (h + w) (q ||| X * 2 ^ h) := by
  obtain ⟨h1, rfl, h3, h4⟩ := p
  have e : all w (nats (xs ++ [(X : Int)])) = all w (nats xs) + X * 2 ^ (w * xs.length) := by rw [nats_snoc, all_snoc, nats_length]; rfl
  refine ⟨by rw [List.length_append, Nat.mul_add]; simp; omega, ?_, ?_, fit_snoc h4 (by omega) (by omega)⟩
  · rw [e, ← win_or h3 (show 8 * m ≤ w * xs.length by omega), show w * xs.length - 8 * m = h by omega]
  · rw [e, List.length_append, Nat.mul_add]; simp only [List.length_cons, List.length_nil, Nat.zero_add, Nat.mul_one]; exact add_lt h3 hX
theorem PackAt.push {w m h q : Nat} {xs : List Int} (p : PackAt w xs m (h + 8) q) : PackAt w xs (m + 1) h (q / 256) := by
  obtain ⟨h1, rfl, h3, h4⟩ := p
  exact ⟨by omega, win_shift _ _, h3, h4⟩
theorem PackAt.byte {w m h q : Nat} {xs : List Int} (p : PackAt w xs m h q) : BitMath.bytes (m + 1) (all w (nats xs)) = BitMath.bytes m (all w (nats xs)) ++ [UInt8.ofNat (q % 256)] := by
  rw [bytes_succ, ← p.2.1]
theorem PackAt.done {w m : Nat} {q : Nat} {xs : List Int} (p : PackAt w xs m 0 q) : BitMath.bytes m (all w (nats xs)) = packed w (nats xs) := by
  unfold packed; rw [nats_length]; congr 1; have := p.1; omega
theorem PackAt.last {w m h q : Nat} {xs : List Int} (p : PackAt w xs m h q) (h0 : 0 < h) (h8 : h < 8) : BitMath.bytes (m + 1) (all w (nats xs)) = packed w (nats xs) := by
  unfold packed; rw [nats_length]; congr 1; have := p.1; omega
theorem bv_mod (q : Nat) : bv (UInt8.ofNat (q % 256)) = .int .u8 ((q : Int) % 256) := by
  unfold bv; rw [UInt8.toNat_ofNat', Nat.mod_eq_of_lt (by omega)]; congr 1
theorem or_win {q X h : Nat} (hq : q < 2 ^ h) (hX : X < 65536) (hh : h < 8) : bits .or .i64 (q : Int) (wrap64 ((X : Int) * 2 ^ h)) = ((q ||| X * 2 ^ h : Nat) : Int) ∧ (q ||| X * 2 ^ h) < 16777216 := by
  have h7 : 2 ^ h ≤ 2 ^ 7 := Nat.pow_le_pow_right (by omega) (by omega)
  have h8 : X * 2 ^ h ≤ 65535 * 2 ^ 7 := Nat.mul_le_mul (by omega) h7
  have e : (X : Int) * 2 ^ h = ((X * 2 ^ h : Nat) : Int) := by push_cast; rfl
  have e2 : wrap64 ((X : Int) * 2 ^ h) = ((X * 2 ^ h : Nat) : Int) := by rw [e]; unfold wrap64; omega
  rw [e2]
  exact ⟨or_i64 _ _ (by omega) (by omega), Nat.or_lt_two_pow (n := 24) (by omega) (by omega)⟩
theorem own_str_bytes {w : World} {B : Nat} {v : Value} {l l' : List UInt8} (h : OwnB w B v l) (e : l = l') : OwnB w B v l' := e ▸ h

set_option maxRecDepth 100000 in
set_option maxHeartbeats 8000000 in
theorem pack_any (A : Option Addr) (n c : Nat) (xs : List Int) (width : Int) (w : World) (hx : ISl w A n xs) (hn : n ≤ 17592186044416) :
    Calls Tryz.prog 113 #[.slice A n c, .int .i64 width] w fun e w' => e = .returned (.tuple #[.string (str (packS xs width)), .int .i64 (packE xs width)]) ∧ Below w.heap.size w w' := by
  by_cases hw : wide width
  · obtain ⟨e1, e2⟩ := pack_wide (xs := xs) hw
    rw [e1, e2]
    unfold wide at hw
    clear e1 e2
    go_enter Tryz.func113, Tryz.ntmps113
    by_cases h0 : width < 0
    · go_wp2
      go_ret2
      exact ⟨rfl, Below.refl _ _⟩
    · have h1 : 16 < width := by omega
      go_wp2
      go_ret2
      exact ⟨rfl, Below.refl _ _⟩
  obtain ⟨wd, rfl⟩ : ∃ wd : Nat, width = (wd : Nat) := ⟨width.toNat, by unfold wide at hw; omega⟩
  have hw16 : wd ≤ 16 := by unfold wide at hw; omega
  clear hw
  have hxl := hx.1
  obtain ⟨R, hR⟩ : ∃ R, R = packS xs (wd : Nat) := ⟨_, rfl⟩
  obtain ⟨E, hE⟩ : ∃ E, E = packE xs (wd : Nat) := ⟨_, rfl⟩
  rw [← hR, ← hE]
  have HRE := Lib.hid (And.intro hR hE); clear hR hE
  have HX := Lib.hid hx; clear hx
  have HXL := Lib.hid hxl; clear hxl
  have h16 : 2 ^ wd ≤ 2 ^ 16 := Nat.pow_le_pow_right (by omega) hw16
  have H16 := Lib.hid h16; clear h16
  go_enter Tryz.func113, Tryz.ntmps113
  go_wp2
  go_loopw [6, 7, 8, 19] (fun ov qv hv iv wr => ∃ k m h q : Nat, k ≤ n ∧ iv = .int .i64 k ∧ h < 8 ∧ hv = .int .i64 h ∧ qv = .int .i64 q ∧ m ≤ 2 * k ∧ Hid (PackAt wd (xs.take k) m h q) ∧ OwnB wr w.heap.size ov (BitMath.bytes m (all wd (nats (xs.take k)))) ∧ Below w.heap.size w wr) (fun _ _ _ iv _ => n - (intOf iv).toNat)
  case atStart => exact ⟨0, 0, 0, 0, by omega, rfl, by omega, rfl, rfl, by omega, Lib.hid (PackAt.zero wd), OwnB.nil _ _, Below.refl _ _⟩
  case round =>
    obtain ⟨k, m, h, q, hk, rfl, hh, rfl, rfl, hm, hp, hO, hb⟩ := hrel
    have HO := Lib.hid hO; clear hO
    by_cases hkn : k < n
    · obtain ⟨g, off, x, hxk, rfl, hg, hcell⟩ := (HX.out.keep hb (fun b o e => (HX.out.2 (by omega)).elim fun b' h' => h'.elim fun o' h'' => by obtain ⟨e', hlt, _⟩ := h''; rw [e'] at e; injection e with e; injection e with e1; omega)).at_ (k := k) hkn
      have hkl : k < xs.length := by rw [HXL.out]; exact hkn
      have hxe : xs[k] = x := by rw [List.getElem?_eq_getElem hkl] at hxk; injection hxk
      have hts : xs.take (k + 1) = xs.take k ++ [x] := Vals.take_more hxk
      by_cases h0 : x < 0
      · obtain ⟨e1, e2⟩ := pack_not hw16 (not_fit_at (w := wd) hkl (.inl (by rw [hxe]; exact h0)))
        have HE := Lib.hid (And.intro e1 e2); clear e1 e2 hts hxe hxk
        go_wp2
        go_ret2
        exact ⟨by rw [HRE.out.1, HRE.out.2, HE.out.1, HE.out.2]; rfl, hb⟩
      obtain ⟨X, rfl⟩ : ∃ X : Nat, x = (X : Nat) := ⟨x.toNat, by omega⟩
      by_cases hz : X / 2 ^ wd = 0
      · have hX : X < 2 ^ wd := (Nat.div_eq_zero_iff_lt (Nat.pow_pos (by omega))).1 hz
        have hXl : X < 65536 := Nat.lt_of_lt_of_le hX H16.out
        have hzi : (X : Int) / 2 ^ wd = 0 := by exact_mod_cast hz
        obtain ⟨hor, hq24⟩ := or_win hp.out.lt hXl hh
        have hp2 := hp.out.add hX
        rw [← hts] at hp2
        have HP2 := Lib.hid hp2; clear hp2 hz
        have hbs : BitMath.bytes m (all wd (nats (xs.take k))) = BitMath.bytes m (all wd (nats (xs.take (k + 1)))) := by
          refine bytes_mod _ _ _ ?_
          rw [hts, nats_snoc, all_snoc, nats_length]
          obtain ⟨h1, _, _, _⟩ := hp.out
          have e : 2 ^ (wd * (xs.take k).length) = 256 ^ m * 2 ^ h := by rw [p256, ← Nat.pow_add, h1]
          rw [e, ← Nat.mul_assoc, Nat.mul_comm ((X : Int).toNat) (256 ^ m), Nat.mul_assoc, Nat.add_mul_mod_self_left]
        have hO2 := own_str_bytes HO.out hbs
        have HO2 := Lib.hid hO2; clear hO2 hbs hts hxe hxk HO hkl hp
        generalize q ||| X * 2 ^ h = q2 at *
        have hwp := HP2.out
        have hm2 : m ≤ 2 * (k + 1) := by omega
        have hlt24 : h + wd < 24 := by omega
        go_wp2
        go_loopw [6, 7, 8] (fun ov qv hv w2 => ∃ m' h' q' : Nat, h' < 24 ∧ hv = .int .i64 h' ∧ qv = .int .i64 q' ∧ m' ≤ 2 * (k + 1) ∧ q' < 16777216 ∧ Hid (PackAt wd (xs.take (k + 1)) m' h' q') ∧ OwnB w2 w.heap.size ov (BitMath.bytes m' (all wd (nats (xs.take (k + 1))))) ∧ Below w.heap.size w w2) (fun _ _ hv _ => (intOf hv).toNat)
        case atStart => exact ⟨m, h + wd, q2, hlt24, by go_num, rfl, hm2, hq24, HP2, HO2.out, hb⟩
        case round =>
          obtain ⟨m', h', q', hh', rfl, rfl, hm', hq', hp', hO', hb'⟩ := hrel
          have HO' := Lib.hid hO'; clear hO'
          by_cases h8 : 8 ≤ h'
          · obtain ⟨h'', rfl⟩ : ∃ h'', h' = h'' + 8 := ⟨h' - 8, by omega⟩
            have hbv := bv_mod q'
            have hby := hp'.out.byte
            have hpp := hp'.out.push
            have hml : m' + 1 ≤ 2 * (k + 1) := by
              have h1 := hp'.out.1
              have h2 : (xs.take (k + 1)).length ≤ k + 1 := List.length_take_le _ _
              have h3 : wd * (xs.take (k + 1)).length ≤ 16 * (k + 1) := Nat.mul_le_mul hw16 h2
              omega
            have hbl := bytes_length m' (all wd (nats (xs.take (k + 1))))
            have HBY := Lib.hid (And.intro hby hpp); clear hby hpp
            generalize BitMath.bytes m' (all wd (nats (xs.take (k + 1)))) = L at *
            go_wp2_with (first
              | (refine wpList_push_byte rfl _ _ rfl w.heap.size _ L (UInt8.ofNat (q' % 256)) wr.heap.size 1 rfl rfl (t := 5) (fr := (0, 0)) (by rw [hbv]; exact heap_alloc_new wr _) (HO'.out.alloc _) (by unfold fewB; omega) (by have := hb'.size; simp; omega) ?_; intro u wA hA hgA hatA; have HA := Lib.hid hA; clear hA))
            go_roundw
            case rel => exact ⟨m' + 1, h'', q' / 256, by omega, by go_num, by go_num, hml, by omega, Lib.hid HBY.out.2, own_str_bytes HA.out HBY.out.1.symm, (hb'.alloc hb'.size _).grown hgA (by have := hb'.size; simp; omega) (own_base HO'.out)⟩
            case measure => simp [intOf]; omega
          · go_wp2
            go_roundw
            case rel => exact ⟨k + 1, m', h', q', by omega, by go_num, by omega, rfl, rfl, hm', hp', HO'.out, hb'⟩
            case measure => simp [intOf]; omega
      · obtain ⟨e1, e2⟩ := pack_not hw16 (not_fit_at (w := wd) hkl (.inr (by
          rw [hxe]
          have : 2 ^ wd ≤ X := by
            rcases Nat.lt_or_ge X (2 ^ wd) with h1 | h1
            · exact absurd (Nat.div_eq_of_lt h1) hz
            · exact h1
          omega)))
        have hzi : ¬ (X : Int) / 2 ^ wd = 0 := by exact_mod_cast hz
        have HE := Lib.hid (And.intro e1 e2); clear e1 e2 hts hxe hxk hz
        go_wp2
        go_ret2
        exact ⟨by rw [HRE.out.1, HRE.out.2, HE.out.1, HE.out.2]; rfl, hb⟩
    · obtain rfl : k = n := by omega
      have hxt : xs.take k = xs := List.take_of_length_le (by rw [HXL.out]; exact Nat.le_refl _)
      rw [hxt] at hp
      have hO2 := HO.out
      rw [hxt] at hO2
      have HO2 := Lib.hid hO2; clear hO2
      obtain ⟨e1, e2⟩ := pack_fit hw16 hp.out.2.2.2
      have HE := Lib.hid (And.intro e1 e2); clear e1 e2 hxt HO
      have hbl := bytes_length m (all wd (nats xs))
      by_cases h0 : 0 < h
      · have hbv := bv_mod q
        have hby := hp.out.byte
        rw [hp.out.last h0 hh] at hby
        have HBY := Lib.hid hby; clear hby
        generalize BitMath.bytes m (all wd (nats xs)) = L at *
        go_wp2_with (first
          | (refine wpList_push_byte rfl _ _ rfl w.heap.size _ L (UInt8.ofNat (q % 256)) wr.heap.size 1 rfl rfl (t := 5) (fr := (0, 0)) (by rw [hbv]; exact heap_alloc_new wr _) (HO2.out.alloc _) (by unfold fewB; omega) (by have := hb.size; simp; omega) ?_; intro u wA hA hgA hatA; have HA := Lib.hid hA; clear hA)
          | (refine wpList_own_string rfl _ _ 5 _ rfl u rfl w.heap.size (L ++ [UInt8.ofNat (q % 256)]) HA.out Tryz.underlying54 Tryz.underlying5 Tryz.underlying9 ?_))
        go_ret2
        exact ⟨by rw [HRE.out.1, HRE.out.2, HE.out.1, HE.out.2, HBY.out]; rfl, (hb.alloc hb.size _).grown hgA (by have := hb.size; simp; omega) (own_base HO2.out)⟩
      · obtain rfl : h = 0 := by omega
        have hd := hp.out.done
        have HD := Lib.hid hd; clear hd
        generalize BitMath.bytes m (all wd (nats xs)) = L at *
        go_wp2_with (first
          | (refine wpList_own_string rfl _ _ 5 _ rfl _ rfl w.heap.size L HO2.out Tryz.underlying54 Tryz.underlying5 Tryz.underlying9 ?_))
        go_ret2
        exact ⟨by rw [HRE.out.1, HRE.out.2, HE.out.1, HE.out.2, ← HD.out]; rfl, hb⟩
end Go.Proofs.YtgmemdedpklnhaaGreat.Bitpack
