/-
  SMALL COMMON LEMMAS for the walks: endings, bytes of strings, new blocks.
-/
import Derived.Test.YtmoabfaimcafjaaRows
import Derived.WalkKit
import Derived.WalkSpells
import Derived.WalkLawsBesides
import Derived.Handy
import Derived.Lib.Hide
import Derived.Lib.Strings
import Derived.Laws.BytesArg
import Derived.Laws.CopyOwn
import Derived.Deep.WholeRow
import Derived.Deep.QuietTactic
import Derived.BigQuiet
namespace Go.Proofs.Ytmoabfaimcafjaa
open Go.RowKit

theorem ret_int {k : IntKind} {a b : Int} (h : a = b) : Ending.returned (.int k a) = .returned (.int k b) := by rw [h]
theorem ret_str {a b : ByteArray} (h : a = b) : Ending.returned (.string a) = .returned (.string b) := by rw [h]
theorem ret_bool {a b : Bool} (h : a = b) : Ending.returned (.bool a) = .returned (.bool b) := by rw [h]

/-- More than the form lets any string be (the reach is 2^47 - 4096 bytes). -/
def maxReach : Nat := 1125899906842624
/-- A string of these bytes. -/
def str (l : List UInt8) : ByteArray := ⟨l.toArray⟩
@[simp] theorem str_toList (l : List UInt8) : (str l).data.toList = l := rfl
theorem str_size (l : List UInt8) : (str l).size = l.length := by simp [str, ByteArray.size]
theorem str_self (s : ByteArray) : str s.data.toList = s := rfl
theorem str_eq {l : List UInt8} {s : ByteArray} (h : s.data.toList = l) : s = str l := by subst h; rfl

theorem take_snoc (s : ByteArray) (k : Nat) (h : k < s.size) : s.data.toList.take (k + 1) = s.data.toList.take k ++ [s[k]] := by
  rw [List.take_succ_eq_append_getElem (by simpa using h)]; rfl

/-! Bits of unsigned numbers that are casts. -/
theorem ofInt_u32 (a : Nat) (ha : a < 4294967296) : (BitVec.ofInt 32 (a : Int)).toNat = a := by
  rw [BitVec.ofInt_natCast, BitVec.toNat_ofNat]; exact Nat.mod_eq_of_lt (by omega)
theorem xor_u32 (a b : Nat) (ha : a < 4294967296) (hb : b < 4294967296) : bits .xor .u32 (a : Int) (b : Int) = ((a ^^^ b : Nat) : Int) := by
  have hx : a ^^^ b < 2 ^ 32 := Nat.xor_lt_two_pow (by omega) (by omega)
  show IntKind.u32.wrap ((BitVec.ofInt 32 (a : Int) ^^^ BitVec.ofInt 32 (b : Int)).toNat : Int) = _
  rw [BitVec.toNat_xor, ofInt_u32 a ha, ofInt_u32 b hb, IntKind.wrap_u32]
  omega

theorem and1_u32 (a : Nat) (ha : a < 4294967296) : bits .and .u32 (a : Int) 1 = ((a % 2 : Nat) : Int) := by
  show IntKind.u32.wrap ((BitVec.ofInt 32 (a : Int) &&& BitVec.ofInt 32 (1 : Int)).toNat : Int) = _
  rw [BitVec.toNat_and, ofInt_u32 a ha, show (BitVec.ofInt 32 (1 : Int)).toNat = 1 from rfl, IntKind.wrap_u32, Nat.and_one_is_mod]
  omega

theorem ofInt_u8 (a : Nat) (ha : a < 256) : (BitVec.ofInt 8 (a : Int)).toNat = a := by
  rw [BitVec.ofInt_natCast, BitVec.toNat_ofNat]; exact Nat.mod_eq_of_lt (by omega)
theorem xor_u8 (a b : Nat) (ha : a < 256) (hb : b < 256) : bits .xor .u8 (a : Int) (b : Int) = ((a ^^^ b : Nat) : Int) := by
  have hx : a ^^^ b < 2 ^ 8 := Nat.xor_lt_two_pow (by omega) (by omega)
  show IntKind.u8.wrap ((BitVec.ofInt 8 (a : Int) ^^^ BitVec.ofInt 8 (b : Int)).toNat : Int) = _
  rw [BitVec.toNat_xor, ofInt_u8 a ha, ofInt_u8 b hb, IntKind.wrap_u8]
  omega
theorem heap_setRow_same (w : World) (g : Nat) (old cs : Array Value) (t : TypeId) (f : Nat × Nat) (hg : w.heap[g]? = some (.cells old t f)) : (w.setRow g cs).heap[g]? = some (.cells cs t f) := by
  simp [World.setRow, Array.getElem?_modify, hg]
theorem ofInt_i64 (a : Nat) (ha : a < 9223372036854775808) : (BitVec.ofInt 64 (a : Int)).toNat = a := by
  rw [BitVec.ofInt_natCast, BitVec.toNat_ofNat]; exact Nat.mod_eq_of_lt (by omega)
theorem and_i64 (a b : Nat) (ha : a < 9223372036854775808) (hb : b < 9223372036854775808) : bits .and .i64 (a : Int) (b : Int) = ((a &&& b : Nat) : Int) := by
  have hx : a &&& b < 2 ^ 63 := Nat.and_lt_two_pow _ (by omega)
  show IntKind.i64.wrap ((BitVec.ofInt 64 (a : Int) &&& BitVec.ofInt 64 (b : Int)).toNat : Int) = _
  rw [BitVec.toNat_and, ofInt_i64 a ha, ofInt_i64 b hb, IntKind.wrap_i64]
  omega
theorem and255_i64 (a : Nat) (ha : a < 9223372036854775808) : bits .and .i64 (a : Int) 255 = (a : Int) % 256 := by
  rw [show (255 : Int) = ((255 : Nat) : Int) from rfl, and_i64 a 255 ha (by omega), show (255 : Nat) = 2 ^ 8 - 1 from rfl, Nat.and_two_pow_sub_one_eq_mod]
  omega

theorem toNat_ofInt64 (c : Int) : (BitVec.ofInt 64 c).toNat = (c % 18446744073709551616).toNat := by
  rw [BitVec.toNat_ofInt]; rfl
theorem and_mask_i64 (c : Int) (n : Nat) (hn : n < 63) : bits .and .i64 c ((2 ^ n - 1 : Nat) : Int) = c % ((2 ^ n : Nat) : Int) := by
  have hp : 2 ^ n < 2 ^ 63 := Nat.pow_lt_pow_right (by omega) hn
  have hp0 : 0 < 2 ^ n := Nat.pow_pos (by omega)
  show IntKind.i64.wrap ((BitVec.ofInt 64 c &&& BitVec.ofInt 64 ((2 ^ n - 1 : Nat) : Int)).toNat : Int) = _
  rw [BitVec.toNat_and, ofInt_i64 _ (by omega), toNat_ofInt64, Nat.and_two_pow_sub_one_eq_mod, IntKind.wrap_i64]
  have h0 : 0 ≤ c % 18446744073709551616 := Int.emod_nonneg _ (by omega)
  have hdvd : ((2 ^ n : Nat) : Int) ∣ 18446744073709551616 := by
    refine ⟨((2 ^ (64 - n) : Nat) : Int), ?_⟩
    rw [← Int.natCast_mul, ← Nat.pow_add, show n + (64 - n) = 64 by omega]; rfl
  have e1 : (((c % 18446744073709551616).toNat % 2 ^ n : Nat) : Int) = c % ((2 ^ n : Nat) : Int) := by
    rw [Int.natCast_emod, Int.toNat_of_nonneg h0, Int.emod_emod_of_dvd _ hdvd]
  rw [e1]
  have h1 : 0 ≤ c % ((2 ^ n : Nat) : Int) := Int.emod_nonneg _ (by omega)
  have h2 : c % ((2 ^ n : Nat) : Int) < ((2 ^ n : Nat) : Int) := Int.emod_lt_of_pos _ (by omega)
  omega
theorem xor_i64 (a b : Nat) (ha : a < 9223372036854775808) (hb : b < 9223372036854775808) : bits .xor .i64 (a : Int) (b : Int) = ((a ^^^ b : Nat) : Int) := by
  have hx : a ^^^ b < 2 ^ 63 := Nat.xor_lt_two_pow (by omega) (by omega)
  show IntKind.i64.wrap ((BitVec.ofInt 64 (a : Int) ^^^ BitVec.ofInt 64 (b : Int)).toNat : Int) = _
  rw [BitVec.toNat_xor, ofInt_i64 a ha, ofInt_i64 b hb, IntKind.wrap_i64]
  omega
theorem or_i64 (a b : Nat) (ha : a < 9223372036854775808) (hb : b < 9223372036854775808) : bits .or .i64 (a : Int) (b : Int) = ((a ||| b : Nat) : Int) := by
  have hx : a ||| b < 2 ^ 63 := Nat.or_lt_two_pow (by omega) (by omega)
  show IntKind.i64.wrap ((BitVec.ofInt 64 (a : Int) ||| BitVec.ofInt 64 (b : Int)).toNat : Int) = _
  rw [BitVec.toNat_or, ofInt_i64 a ha, ofInt_i64 b hb, IntKind.wrap_i64]
  omega

/-! Slices of bytes made by the call, as strings. -/
theorem str_nums (xs : List Int) : strOfNums xs = str (xs.map fun n => UInt8.ofNat n.toNat) := rfl
section
variable {P : Program} (src dst e : TypeId) (hs : P.underlying src = some (.slice e)) (he : P.underlying e = some (.int .u8)) (hd : P.underlying dst = some .string)
include hs he hd
theorem run_str_row (W : World) (xs : List Int) (k : Nat) (n c : Nat) (hn : xs.length = n) (hk : k = W.heap.size) :
    (convert src dst (.slice (some ⟨k, 0, none⟩) n c)).run P (W.alloc (.cells (xs.map (Value.int .u8)).toArray e)) = .ok (.string (strOfNums xs)) (W.alloc (.cells (xs.map (Value.int .u8)).toArray e)) := by
  subst hk
  refine run_convert_bytes_arg _ src e hs he _ 0 n c xs hn (fun i hi => ?_) dst hd
  rw [World.cell?_alloc_at _ _ _ _ rfl]
  simp [List.getElem?_eq_getElem (show i < xs.length by omega)]
theorem run_str1 (W : World) (c : Nat) (x0 : Int) :
    (convert src dst (.slice (some ⟨W.heap.size, 0, none⟩) 1 c)).run P (W.alloc (.cells #[.int .u8 x0] e)) = .ok (.string (strOfNums [x0])) (W.alloc (.cells #[.int .u8 x0] e)) :=
  run_str_row src dst e hs he hd W [x0] _ 1 c rfl rfl
theorem run_str2 (W : World) (c : Nat) (x0 x1 : Int) :
    (convert src dst (.slice (some ⟨W.heap.size, 0, none⟩) 2 c)).run P (W.alloc (.cells #[.int .u8 x0, .int .u8 x1] e)) = .ok (.string (strOfNums [x0, x1])) (W.alloc (.cells #[.int .u8 x0, .int .u8 x1] e)) :=
  run_str_row src dst e hs he hd W [x0, x1] _ 2 c rfl rfl
theorem run_str3 (W : World) (c : Nat) (x0 x1 x2 : Int) :
    (convert src dst (.slice (some ⟨W.heap.size, 0, none⟩) 3 c)).run P (W.alloc (.cells #[.int .u8 x0, .int .u8 x1, .int .u8 x2] e)) = .ok (.string (strOfNums [x0, x1, x2])) (W.alloc (.cells #[.int .u8 x0, .int .u8 x1, .int .u8 x2] e)) :=
  run_str_row src dst e hs he hd W [x0, x1, x2] _ 3 c rfl rfl
theorem run_str4 (W : World) (c : Nat) (x0 x1 x2 x3 : Int) :
    (convert src dst (.slice (some ⟨W.heap.size, 0, none⟩) 4 c)).run P (W.alloc (.cells #[.int .u8 x0, .int .u8 x1, .int .u8 x2, .int .u8 x3] e)) = .ok (.string (strOfNums [x0, x1, x2, x3])) (W.alloc (.cells #[.int .u8 x0, .int .u8 x1, .int .u8 x2, .int .u8 x3] e)) :=
  run_str_row src dst e hs he hd W [x0, x1, x2, x3] _ 4 c rfl rfl
end

theorem sz1 (x0 : Int) : (strOfNums [x0]).size = 1 := rfl
theorem sz2 (x0 x1 : Int) : (strOfNums [x0, x1]).size = 2 := rfl
theorem sz3 (x0 x1 x2 : Int) : (strOfNums [x0, x1, x2]).size = 3 := rfl
theorem sz4 (x0 x1 x2 x3 : Int) : (strOfNums [x0, x1, x2, x3]).size = 4 := rfl
theorem u8_of {n : Int} {m : Nat} (h : n.toNat % 256 = m % 256) : UInt8.ofNat n.toNat = UInt8.ofNat m := by
  apply UInt8.toNat_inj.1; rw [UInt8.toNat_ofNat', UInt8.toNat_ofNat']; exact h
theorem teq_true {a b : ByteArray} (h : a.data.toList = b.data.toList) : (a.toList == b.toList) = true := by
  rw [Lib.toList_data, Lib.toList_data, h]; simp
theorem teq_false {a b : ByteArray} (h : ¬ a.data.toList = b.data.toList) : (a.toList == b.toList) = false := by
  rw [Lib.toList_data, Lib.toList_data]; simpa using h
theorem append_toList (a b : ByteArray) : (a ++ b).data.toList = a.data.toList ++ b.data.toList := by simp

theorem below_drewN {B : Nat} {a w : World} (h : Below B a w) (n : Nat) : Below B a (w.drewN n) := ⟨h.os, h.tape, h.output, h.size, h.block⟩

theorem bthen {a b c : World} {B : Nat} (h1 : Below B a b) (h2 : Below b.heap.size b c) (hB : B ≤ a.heap.size) : Below B a c := h1.trans (h2.mono (Nat.le_trans hB h1.size))

theorem bcell {W w1 : World} {B : Nat} (hb : Below B W w1) : (∀ b o, b < B → w1.cell? ⟨b, o, none⟩ = W.cell? ⟨b, o, none⟩) ∧ (∀ b o, b < B → w1.frozen? ⟨b, o, none⟩ = W.frozen? ⟨b, o, none⟩) :=
  ⟨fun b o h => hb.cell (p := ⟨b, o, none⟩) h, fun b o h => hb.frozen (p := ⟨b, o, none⟩) h⟩

end Go.Proofs.Ytmoabfaimcafjaa
