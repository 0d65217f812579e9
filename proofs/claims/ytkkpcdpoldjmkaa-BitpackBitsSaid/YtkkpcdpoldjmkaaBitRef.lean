/-
  THE WALK of boathouseref1.Pack.
-/
import Derived.Test.YtkkpcdpoldjmkaaBitProg2
import Derived.Test.YtkkpcdpoldjmkaaMake
import Derived.StillTailTactics
namespace Go.Proofs.Ytkkpcdpoldjmkaa.Bitpack
open Go.RowKit BitMath Sl

/-- What the loops of the document's Pack hold: t bits laid. -/
def LaidAt (w : Nat) (xs : List Int) (i k t : Nat) (l : List UInt8) : Prop :=
  t = w * i + k ∧ num l = all w (nats (xs.take i)) + (xs.getD i 0).toNat % 2 ^ k * 2 ^ (w * i) ∧ num l < 2 ^ t
theorem LaidAt.bit {w i k t : Nat} {xs : List Int} {l : List UInt8} (p : LaidAt w xs i k t l) (hl : t / 8 < l.length) (b : Nat) (hb : b = (xs.getD i 0).toNat / 2 ^ k % 2) :
    byteAt l (t / 8) ||| b * 2 ^ (t % 8) < 256 ∧ LaidAt w xs i (k + 1) (t + 1) (l.set (t / 8) (UInt8.ofNat (byteAt l (t / 8) ||| b * 2 ^ (t % 8)))) := by
  obtain ⟨h1, h2, h3⟩ := p
  obtain ⟨a1, a2, a3, a4⟩ := lay_bit (b := b) hl h3 (by omega)
  have e : byteAt l (t / 8) = (l.getD (t / 8) 0).toNat := rfl
  rw [e, a1]
  refine ⟨a2, by omega, ?_, by rw [a3]; exact a4⟩
  rw [a3, h2, bit_more, Nat.add_mul, ← hb, h1, Nat.pow_add]
  have : b * (2 ^ (w * i) * 2 ^ k) = b * 2 ^ k * 2 ^ (w * i) := by rw [Nat.mul_comm (2 ^ (w * i)), Nat.mul_assoc]
  omega
theorem LaidAt.next {w i t : Nat} {xs : List Int} {l : List UInt8} (p : LaidAt w xs i w t l) (hi : i < xs.length) (h0 : 0 ≤ xs[i]) (h1 : xs[i] < ((2 ^ w : Nat) : Int)) : LaidAt w xs (i + 1) 0 t l := by
  obtain ⟨e1, e2, e3⟩ := p
  have hg : xs.getD i 0 = xs[i] := by rw [List.getD_eq_getElem?_getD, List.getElem?_eq_getElem hi]; rfl
  refine ⟨by rw [Nat.mul_succ]; omega, ?_, e3⟩
  rw [e2, hg, Nat.mod_eq_of_lt (show xs[i].toNat < 2 ^ w by omega), List.take_succ_eq_append_getElem hi, nats_snoc, all_snoc, nats_length, List.length_take, Nat.min_eq_left (by omega), Nat.pow_zero, Nat.mod_one]
  omega
theorem LaidAt.zero (w : Nat) (xs : List Int) (n : Nat) : LaidAt w xs 0 0 0 (List.replicate n 0) := ⟨by omega, by rw [num_replicate]; simp [nats, all, Nat.mod_one], by rw [num_replicate]; simp⟩

theorem bit_store {y b tm : Nat} (hy : y < 256) (hb : b < 2) (ht : tm < 8) : bv (UInt8.ofNat (y ||| b * 2 ^ tm)) = .int .u8 (bits .or .u8 (y : Int) (wrap64 ((b : Int) * 2 ^ tm) % 256)) := by
  have h7 : 2 ^ tm ≤ 2 ^ 7 := Nat.pow_le_pow_right (by omega) (by omega)
  have h8 : b * 2 ^ tm ≤ 1 * 2 ^ 7 := Nat.mul_le_mul (by omega) h7
  have e : (b : Int) * 2 ^ tm = ((b * 2 ^ tm : Nat) : Int) := by push_cast; rfl
  have e2 : wrap64 ((b : Int) * 2 ^ tm) % 256 = ((b * 2 ^ tm : Nat) : Int) := by rw [e]; unfold wrap64; omega
  have hlt : y ||| b * 2 ^ tm < 2 ^ 8 := Nat.or_lt_two_pow (by omega) (by omega)
  rw [e2, or_u8 _ _ hy (by omega)]
  unfold bv; rw [UInt8.toNat_ofNat', Nat.mod_eq_of_lt (by omega)]
set_option maxRecDepth 100000 in
set_option maxHeartbeats 8000000 in
theorem refPack_any (A : Option Addr) (n c : Nat) (xs : List Int) (width : Int) (w : World) (hx : ISl w A n xs) (hn : n ≤ 17592186044416) (hf : ∀ x ∈ xs, x < 9223372036854775808) :
    Calls Try.prog 110 #[.slice A n c, .int .i64 width] w fun e w' => e = .returned (.tuple #[.string (str (packS xs width)), .int .i64 (packE xs width)]) ∧ Below w.heap.size w w' := by
  by_cases hw : wide width
  · obtain ⟨e1, e2⟩ := pack_wide (xs := xs) hw
    rw [e1, e2]
    unfold wide at hw
    clear e1 e2
    go_enter Try.func110, Try.ntmps110
    by_cases h0 : width < 0
    · go_wp2
      go_ret2
      exact ⟨rfl, Below.refl _ _⟩
    · have h1 : 16 < width := by omega
      go_wp2
      go_ret2
      exact ⟨rfl, Below.refl _ _⟩
  obtain ⟨wd, rfl⟩ : ∃ wd : Nat, width = (wd : Nat) := ⟨width.toNat, by unfold wide at hw; omega⟩
  have hw16 : wd ≤ 16 := by unfold wide at hw; omega
  clear hw
  have hxl := hx.1
  obtain ⟨R, hR⟩ : ∃ R, R = packS xs (wd : Nat) := ⟨_, rfl⟩
  obtain ⟨E, hE⟩ : ∃ E, E = packE xs (wd : Nat) := ⟨_, rfl⟩
  rw [← hR, ← hE]
  have HRE := Lib.hid (And.intro hR hE); clear hR hE
  have HX := Lib.hid hx; clear hx
  have HF := Lib.hid hf; clear hf
  have HXL := Lib.hid hxl; clear hxl
  obtain ⟨P, hP⟩ : ∃ P, P = n * wd := ⟨_, rfl⟩
  have hPl : P ≤ n * 16 := by rw [hP]; exact Nat.mul_le_mul_left _ hw16
  have hPI : (n : Int) * (wd : Int) = (P : Int) := by rw [hP]; push_cast; rfl
  have HP := Lib.hid hP; clear hP
  obtain ⟨N, hN⟩ : ∃ N, N = (P + 7) / 8 := ⟨_, rfl⟩
  have hNI : ((P : Int) + 7) / 8 = (N : Int) := by omega
  have hNl : N ≤ 281474976710656 := by omega
  have HN := Lib.hid hN; clear hN
  go_enter Try.func110, Try.ntmps110
  go_wp2_with (first
    | (at_make; refine wpList_make_bytes rfl _ _ rfl w.heap.size .i64 .i64 _ _ N rfl rfl (by first | rfl | omega) (by first | rfl | omega) hNl (Nat.le_refl _) ?_; intro w1 hO1 hg1 hsz1))
  have hb1 : Below w.heap.size w w1 := (Below.refl _ _).grown hg1 (Nat.le_refl _) (fun j hj => by cases hj)
  go_loopw [7] (fun iv wr => ∃ (i t : Nat) (l : List UInt8), i ≤ n ∧ iv = .int .i64 i ∧ l.length = N ∧ Hid (LaidAt wd xs i 0 t l ∧ fit wd (xs.take i)) ∧ OwnB wr w.heap.size (.slice (some ⟨w.heap.size, 0, none⟩) N N) l ∧ Below w.heap.size w wr) (fun iv _ => n - (intOf iv).toNat)
  case atStart => exact ⟨0, 0, List.replicate N 0, by omega, rfl, by simp, Lib.hid ⟨LaidAt.zero _ _ _, fun x hx => by simp at hx⟩, hO1, hb1⟩
  case round =>
    obtain ⟨i, t, l, hi, rfl, hll, hp, hO, hb⟩ := hrel
    have HO := Lib.hid hO; clear hO
    by_cases hin : i < n
    · obtain ⟨g, off, x, hxk, hA, hg, hcell⟩ := HX.out.at_ (k := i) hin
      subst hA
      have hcw := (hb.cell (p := ⟨g, off + i, none⟩) hg).trans hcell
      have hkl : i < xs.length := by rw [HXL.out]; exact hin
      have hxe : xs[i] = x := by rw [List.getElem?_eq_getElem hkl] at hxk; injection hxk
      have hxg : xs.getD i 0 = x := by rw [List.getD_eq_getElem?_getD, hxk]; rfl
      have hts : xs.take (i + 1) = xs.take i ++ [x] := Vals.take_more hxk
      have hx64 := HF.out x (List.mem_of_getElem? hxk)
      by_cases h0 : x < 0
      · obtain ⟨e1, e2⟩ := pack_not hw16 (not_fit_at (w := wd) hkl (.inl (by rw [hxe]; exact h0)))
        have HE := Lib.hid (And.intro e1 e2); clear e1 e2 hts hxe hxk hxg
        go_wp2
        go_ret2
        exact ⟨by rw [HRE.out.1, HRE.out.2, HE.out.1, HE.out.2]; rfl, hb⟩
      have hW := Lib.hid (fun w => refWidth_any x w hx64)
      have hwl := width_le (most := x) (w := wd) hx64
      clear hx64
      generalize width x = wx at *
      by_cases hz : wx ≤ wd
      · have hX := hwl.1 hz
        obtain ⟨X, rfl⟩ : ∃ X : Nat, x = (X : Nat) := ⟨x.toNat, by omega⟩
        have HXW := Lib.hid (And.intro hX hts); clear hX hwl hts hxk
        have HCELL := Lib.hid hcell; clear hcell
        obtain ⟨Q, hQ⟩ : ∃ Q, Q = i * wd := ⟨_, rfl⟩
        have hQI : (i : Int) * (wd : Int) = (Q : Int) := by rw [hQ]; push_cast; rfl
        have hQP : Q + wd ≤ P := by rw [hQ, HP.out, ← Nat.succ_mul]; exact Nat.mul_le_mul_right _ hin
        have HQ := Lib.hid hQ; clear hQ
        go_wp2_with (go_at_call 114; with_reducible refine (hW.out _).mono ?_; rintro e w' ⟨rfl, rfl⟩)
        go_loopw [8] (fun kv w2 => ∃ (k t : Nat) (l : List UInt8), k ≤ wd ∧ kv = .int .i64 k ∧ l.length = N ∧ Hid (LaidAt wd xs i k t l) ∧ OwnB w2 w.heap.size (.slice (some ⟨w.heap.size, 0, none⟩) N N) l ∧ Below w.heap.size w w2) (fun kv _ => wd - (intOf kv).toNat)
        case atStart => exact ⟨0, t, l, by omega, rfl, hll, Lib.hid hp.out.1, HO.out, hb⟩
        case round =>
          obtain ⟨k, t, l, hk, rfl, hll, hp', hO, hb⟩ := hrel
          by_cases hkw : k < wd
          · have ht1 := hp'.out.1
            rw [Nat.mul_comm, ← HQ.out] at ht1
            have htN : t / 8 < N := by have := HN.out; omega
            have hti : (Q : Int) + (k : Int) = (t : Int) := by omega
            have ht1' := Lib.hid ht1; clear ht1
            obtain ⟨b, hbb⟩ : ∃ b, b = X / 2 ^ k % 2 := ⟨_, rfl⟩
            have hbl : b < 2 := by omega
            obtain ⟨hlt, hla⟩ := hp'.out.bit (by rw [hll]; exact htN) b (by rw [hxg]; exact hbb)
            obtain ⟨hcb, hfb⟩ := own_byte_at hO hll (t / 8) htN
            have hby := byteAt_lt l (t / 8)
            have hcw2 := (hb.cell (p := ⟨g, off + i, none⟩) hg).trans HCELL.out
            have hand : bits .and .i64 ((X : Int) / 2 ^ k) 1 = (b : Int) := by
              rw [and1_i64, hbb]
              have : ((X : Int) / 2 ^ k) = ((X / 2 ^ k : Nat) : Int) := by push_cast; rfl
              rw [this]; omega
            have HB := Lib.hid hbb; clear hbb
            have h8 : t % 8 < 8 := Nat.mod_lt _ (by omega)
            have hst := bit_store (y := byteAt l (t / 8)) (b := b) (tm := t % 8) hby hbl h8
            have HLA := Lib.hid hla; clear hla
            have HO2 := Lib.hid hO; clear hO
            have htI : (t : Int) / 8 = ((t / 8 : Nat) : Int) := by omega
            have htM : (t : Int) % 8 = ((t % 8 : Nat) : Int) := by omega
            generalize byteAt l (t / 8) = y at *
            generalize hq8 : t / 8 = t8 at *
            generalize hm8 : t % 8 = tm at *
            have HQ8 := Lib.hid (And.intro hq8 hm8); clear hq8 hm8
            have HST := Lib.hid hst; clear hst
            go_wp2
            go_region
            go_wp2
            go_roundw
            case rel =>
              have HO3 := own_put_byte HO2.out hll t8 (UInt8.ofNat (y ||| b * 2 ^ tm))
              rw [HST.out] at HO3
              exact ⟨k + 1, t + 1, _, by omega, by go_num, by rw [List.length_set]; exact hll, Lib.hid HLA.out, HO3.drew, (hb.setCell (p := ⟨w.heap.size, t8, none⟩) (Nat.le_refl _) _).drew⟩
            case measure => simp [intOf]; omega
          · obtain rfl : k = wd := by omega
            have hnx := hp'.out.next hkl (by rw [hxe]; exact h0) (by rw [hxe]; exact HXW.out.1)
            have hft : fit k (xs.take (i + 1)) := by rw [HXW.out.2]; exact fit_snoc hp.out.2 h0 HXW.out.1
            have HNX := Lib.hid (And.intro hnx hft); clear hnx hft
            go_wp2
            go_roundw
            case rel => exact ⟨i + 1, t, l, by omega, by go_num, hll, HNX, hO, hb⟩
            case measure => simp [intOf]; omega
      · obtain ⟨e1, e2⟩ := pack_not hw16 (not_fit_at (w := wd) hkl (.inr (by rw [hxe]; exact Int.not_lt.1 (fun h => hz (hwl.2 h)))))
        have HE := Lib.hid (And.intro e1 e2); clear e1 e2 hts hxe hxk hxg hwl
        have hzI : (wd : Int) < (wx : Int) := by omega
        go_wp2_with (go_at_call 114; with_reducible refine (hW.out _).mono ?_; rintro e w' ⟨rfl, rfl⟩)
        go_ret2
        exact ⟨by rw [HRE.out.1, HRE.out.2, HE.out.1, HE.out.2]; rfl, hb⟩
    · obtain rfl : i = n := by omega
      have hxt : xs.take i = xs := List.take_of_length_le (by rw [HXL.out]; exact Nat.le_refl _)
      obtain ⟨⟨h1, h2, h3⟩, h4⟩ := hp.out
      rw [hxt] at h2 h4
      obtain ⟨e1, e2⟩ := pack_fit hw16 h4
      have hlp : l = packed wd (nats xs) := by
        unfold packed
        refine bytes_of_num (by rw [hll, HN.out, HP.out, nats_length, HXL.out, Nat.mul_comm]) ?_
        rw [h2, Nat.pow_zero, Nat.mod_one]; omega
      have HE := Lib.hid (And.intro e1 (And.intro e2 hlp)); clear e1 e2 hlp h1 h2 h3 h4 hp hxt
      go_wp2_with (first
        | (refine wpList_own_string rfl _ _ 5 _ rfl _ rfl w.heap.size l HO.out Try.underlying32 Try.underlying5 Try.underlying9 ?_))
      go_ret2
      exact ⟨by rw [HRE.out.1, HRE.out.2, HE.out.1, HE.out.2.1, ← HE.out.2.2]; rfl, hb⟩
end Go.Proofs.Ytkkpcdpoldjmkaa.Bitpack
