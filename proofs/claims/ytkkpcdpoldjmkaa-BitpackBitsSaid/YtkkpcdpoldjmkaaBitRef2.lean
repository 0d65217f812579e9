/-
  THE WALK of boathouseref1.Unpack.
-/
import Derived.Test.YtkkpcdpoldjmkaaBitRef
import Derived.Test.YtkkpcdpoldjmkaaBitProg3
import Derived.Test.YtkkpcdpoldjmkaaMem
namespace Go.Proofs.Ytkkpcdpoldjmkaa.Bitpack
open Go.RowKit BitMath Sl

theorem many_zero (m w : Nat) : many_ 0 m w = List.replicate m 0 := by
  refine List.ext_getElem (by simp [many_]) fun i h1 h2 => ?_
  simp [many_]
theorem many_get (n m w i : Nat) (h : i < m) : (many_ n m w).getD i 0 = ((n / 2 ^ (w * i) % 2 ^ w : Nat) : Int) := by
  rw [List.getD_eq_getElem?_getD, List.getElem?_eq_getElem (by rw [many_length]; exact h)]; simp [many_]
/-- A bit more laid. -/
theorem many_bit {x t b m w : Nat} (hx : x < 2 ^ t) (hb : b ≤ 1) (hw : 0 < w) (ht : t / w < m) :
    many_ (x + b * 2 ^ t) m w = (many_ x m w).set (t / w) ((x / 2 ^ (w * (t / w)) % 2 ^ w ||| b * 2 ^ (t % w) : Nat) : Int) ∧ x / 2 ^ (w * (t / w)) % 2 ^ w < 2 ^ (t % w) := by
  have hdm := Nat.div_add_mod t w
  have hr := Nat.mod_lt t hw
  generalize hq : t / w = q at *
  generalize hrr : t % w = r at *
  have hold : x / 2 ^ (w * q) < 2 ^ r := by
    refine Nat.div_lt_of_lt_mul ?_
    rw [← Nat.pow_add, hdm]; exact hx
  have hrw : 2 ^ r ≤ 2 ^ w := Nat.pow_le_pow_right (by omega) (by omega)
  have hmod : x / 2 ^ (w * q) % 2 ^ w = x / 2 ^ (w * q) := Nat.mod_eq_of_lt (by omega)
  refine ⟨?_, by rw [hmod]; exact hold⟩
  rw [hmod, or_bit hold]
  have hbm : b * 2 ^ r ≤ 1 * 2 ^ r := Nat.mul_le_mul_right _ hb
  have hpt : 2 ^ t = 2 ^ (w * q) * 2 ^ r := by rw [← Nat.pow_add, hdm]
  refine List.ext_getElem (by simp [many_]) fun i h1 h2 => ?_
  rw [List.getElem_set]
  have him : i < m := by rw [many_length] at h1; exact h1
  by_cases hi : q = i
  · subst hi
    rw [if_pos rfl]
    simp only [many_, List.getElem_map, List.getElem_range]
    congr 1
    rw [hpt, Nat.mul_comm b, Nat.mul_assoc, Nat.add_mul_div_left _ _ (Nat.pow_pos (by omega)), Nat.mul_comm (2 ^ r), Nat.mod_eq_of_lt]
    have : 2 ^ (r + 1) ≤ 2 ^ w := Nat.pow_le_pow_right (by omega) (by omega)
    rw [Nat.pow_succ] at this; omega
  · rw [if_neg hi]
    simp only [many_, List.getElem_map, List.getElem_range]
    congr 1
    rcases Nat.lt_or_ge i q with h | h
    · obtain ⟨d, rfl⟩ : ∃ d, q = i + 1 + d := ⟨q - (i + 1), by omega⟩
      have e : 2 ^ t = 2 ^ (w * i) * (2 ^ w * 2 ^ (w * d + r)) := by
        rw [← Nat.pow_add, ← Nat.pow_add, ← hdm]; congr 1
        rw [Nat.mul_add, Nat.mul_add, Nat.mul_one]; omega
      rw [e, Nat.mul_comm b, Nat.mul_assoc, Nat.add_mul_div_left _ _ (Nat.pow_pos (by omega)), Nat.mul_assoc, Nat.add_mul_mod_self_left]
    · have h1' : w * (q + 1) ≤ w * i := Nat.mul_le_mul_left _ (by omega)
      rw [Nat.mul_succ] at h1'
      have hle : 2 ^ (t + 1) ≤ 2 ^ (w * i) := Nat.pow_le_pow_right (by omega) (by omega)
      rw [Nat.pow_succ] at hle
      have hbt : b * 2 ^ t ≤ 1 * 2 ^ t := Nat.mul_le_mul_right _ hb
      rw [Nat.div_eq_of_lt (show x + b * 2 ^ t < 2 ^ (w * i) by omega), Nat.div_eq_of_lt (show x < 2 ^ (w * i) by omega)]
theorem bit_of_byte (A r : Nat) (hr : r < 8) : A % 256 / 2 ^ r % 2 = A / 2 ^ r % 2 := by
  have e : 256 = 2 ^ r * 2 ^ (8 - r) := by rw [← Nat.pow_add, show r + (8 - r) = 8 by omega]
  rw [e, Nat.mod_mul_right_div_self, Nat.mod_mod_of_dvd]
  exact ⟨2 ^ (8 - r - 1), by rw [Nat.mul_comm, ← Nat.pow_succ]; congr 1; omega⟩
theorem str_bit {l : List UInt8} {t : Nat} (ht : t / 8 < l.length) : byteAt l (t / 8) / 2 ^ (t % 8) % 2 = num l / 2 ^ t % 2 := by
  have e : byteAt l (t / 8) = num l / 256 ^ (t / 8) % 256 := num_at l _ ht
  rw [e, bit_of_byte _ _ (by omega), p256, Nat.div_div_eq_div_mul, ← Nat.pow_add, show 8 * (t / 8) + t % 8 = t by omega]
/-- What the loop of the document's Unpack holds. -/
def GotAt (n m w P t : Nat) (l : List Int) : Prop := l = many_ (n % 2 ^ t) m w ∧ (n % 2 ^ t) / 2 ^ P = 0
theorem GotAt.zero (n m w P : Nat) : GotAt n m w P 0 (List.replicate m 0) := ⟨by rw [Nat.pow_zero, Nat.mod_one, many_zero], by rw [Nat.pow_zero, Nat.mod_one, Nat.zero_div]⟩
theorem GotAt.bit {n m w P t : Nat} {l : List Int} (p : GotAt n m w P t l) (hw : 0 < w) (hP : P = m * w) (ht : t < P) (b : Nat) (hb : b = n / 2 ^ t % 2) :
    t / w < m ∧ l.getD (t / w) 0 = ((n % 2 ^ t / 2 ^ (w * (t / w)) % 2 ^ w : Nat) : Int) ∧ n % 2 ^ t / 2 ^ (w * (t / w)) % 2 ^ w < 2 ^ (t % w) ∧
    GotAt n m w P (t + 1) (l.set (t / w) ((n % 2 ^ t / 2 ^ (w * (t / w)) % 2 ^ w ||| b * 2 ^ (t % w) : Nat) : Int)) := by
  obtain ⟨rfl, _⟩ := p
  have htm : t / w < m := Nat.div_lt_of_lt_mul (by rw [Nat.mul_comm]; omega)
  have hlt : n % 2 ^ t < 2 ^ t := Nat.mod_lt _ (Nat.pow_pos (by omega))
  obtain ⟨h1, h2⟩ := many_bit (b := b) (m := m) hlt (by omega) hw htm
  refine ⟨htm, many_get _ _ _ _ htm, h2, ?_, ?_⟩
  · rw [bit_more, ← hb]; exact h1.symm
  · refine Nat.div_eq_of_lt (Nat.lt_of_lt_of_le (Nat.mod_lt _ (Nat.pow_pos (by omega))) (Nat.pow_le_pow_right (by omega) ht))
theorem GotAt.skip {n m w P t : Nat} {l : List Int} (p : GotAt n m w P t l) (hb : n / 2 ^ t % 2 = 0) : GotAt n m w P (t + 1) l := by
  unfold GotAt at p ⊢
  rw [bit_more, hb, Nat.zero_mul, Nat.add_zero]; exact p
theorem bad_bit {n P t : Nat} (ht : P ≤ t) (hb : n / 2 ^ t % 2 = 1) : n / 2 ^ P ≠ 0 := by
  intro h
  have : n / 2 ^ t = 0 := by
    rw [show t = P + (t - P) by omega, Nat.pow_add, ← Nat.div_div_eq_div_mul, h, Nat.zero_div]
  rw [this] at hb; omega
theorem GotAt.done {m w P : Nat} {s : List UInt8} {l : List Int} (p : GotAt (num s) m w P (8 * s.length) l) : l = many_ (num s) m w ∧ num s / 2 ^ P = 0 := by
  have hlt := num_lt s
  rw [p256] at hlt
  obtain ⟨h1, h2⟩ := p
  rw [Nat.mod_eq_of_lt hlt] at h1 h2
  exact ⟨h1, h2⟩

theorem or_win3 {q b r : Nat} (hq : q < 2 ^ r) (hb : b < 2) (hr : r < 16) : bits .or .i64 (q : Int) (wrap64 ((b : Int) * 2 ^ r)) = ((q ||| b * 2 ^ r : Nat) : Int) := (or_win2 hq (by omega) hr).1
set_option maxRecDepth 100000 in
set_option maxHeartbeats 8000000 in
theorem refUnpack_any (s : ByteArray) (many width : Int) (w : World) (hs : s.size ≤ maxReach) :
    Calls Try.prog 112 #[.string s, .int .i64 many, .int .i64 width] w fun e w' => ∃ v, e = .returned (.tuple #[v, .int .i64 (unpackE s.data.toList many width)]) ∧ OwnI w' w.heap.size v (unpackL s.data.toList many width) ∧ Below w.heap.size w w' := by
  unfold maxReach at hs
  by_cases hw : wide width
  · obtain ⟨e1, e2⟩ := unpack_wide (s := s.data.toList) (many := many) hw
    rw [e1, e2]
    unfold wide at hw
    clear e1 e2
    go_enter Try.func112, Try.ntmps112
    by_cases h0 : width < 0
    · go_wp2
      go_ret2
      exact ⟨_, rfl, OwnI.nil _ _, Below.refl _ _⟩
    · have h1 : 16 < width := by omega
      go_wp2
      go_ret2
      exact ⟨_, rfl, OwnI.nil _ _, Below.refl _ _⟩
  by_cases hr : many < 0 ∨ 65536 < many
  · obtain ⟨e1, e2⟩ := unpack_range (s := s.data.toList) hw hr
    rw [e1, e2]
    unfold wide at hw
    clear e1 e2
    have k1 : ¬ width < 0 := by omega
    have k2 : ¬ 16 < width := by omega
    clear hw
    go_enter Try.func112, Try.ntmps112
    by_cases h0 : many < 0
    · go_wp2
      go_ret2
      exact ⟨_, rfl, OwnI.nil _ _, Below.refl _ _⟩
    · have h1 : 65536 < many := by omega
      go_wp2
      go_ret2
      exact ⟨_, rfl, OwnI.nil _ _, Below.refl _ _⟩
  obtain ⟨wd, rfl⟩ : ∃ wd : Nat, width = (wd : Nat) := ⟨width.toNat, by unfold wide at hw; omega⟩
  have hw16 : wd ≤ 16 := by unfold wide at hw; omega
  obtain ⟨m, rfl⟩ : ∃ m : Nat, many = (m : Nat) := ⟨many.toNat, by omega⟩
  have hm : m ≤ 65536 := by omega
  have hmI : (m : Int) ≤ 65536 := by omega
  clear hw hr
  obtain ⟨P, hP⟩ : ∃ P, P = m * wd := ⟨_, rfl⟩
  have hPl : P ≤ 1048576 := by rw [hP]; exact Nat.le_trans (Nat.mul_le_mul hm hw16) (by omega)
  have hPlI : (P : Int) ≤ 1048576 := by omega
  have hPI : (m : Int) * (wd : Int) = (P : Int) := by rw [hP]; push_cast; rfl
  have HM := Lib.hid hm; clear hm
  have HP := Lib.hid hP; clear hP
  have HPL := Lib.hid hPl; clear hPl
  have hl : s.data.toList.length = s.size := by simp
  by_cases hlen : s.size = (P + 7) / 8
  · have hleni : ((s.size : Int) != ((P : Int) + 7) / 8) = false := by rw [bne_eq_false_iff_eq]; omega
    obtain ⟨LL, hLL⟩ : ∃ LL, LL = unpackL s.data.toList m wd := ⟨_, rfl⟩
    obtain ⟨E, hE⟩ : ∃ E, E = unpackE s.data.toList m wd := ⟨_, rfl⟩
    rw [← hLL, ← hE]
    have HR := Lib.hid (And.intro hLL hE); clear hLL hE
    have hsz : s.data.toList.length = (m * wd + 7) / 8 := by rw [hl, hlen, HP.out]
    have HSZ := Lib.hid (And.intro hsz hl); clear hsz hl
    have HLEN := Lib.hid hlen; clear hlen
    go_enter Try.func112, Try.ntmps112
    go_wp2_with (first
      | (at_make; refine wpList_make_ints rfl _ _ rfl w.heap.size .i64 .i64 _ _ m rfl rfl rfl rfl (by have := HM.out; omega) (Nat.le_refl _) ?_; intro w1 hO1 hg1 hsz1))
    have hb1 : Below w.heap.size w w1 := (Below.refl _ _).grown hg1 (Nat.le_refl _) (fun j hj => by cases hj)
    go_loopw [9] (fun tv wr => ∃ (t : Nat) (l : List Int), t ≤ 8 * s.size ∧ tv = .int .i64 t ∧ l.length = m ∧ Hid (GotAt (num s.data.toList) m wd P t l) ∧ OwnI wr w.heap.size (.slice (some ⟨w.heap.size, 0, none⟩) m m) l ∧ Below w.heap.size w wr) (fun tv _ => 8 * s.size - (intOf tv).toNat)
    case atStart => exact ⟨0, List.replicate m 0, by omega, rfl, by simp, Lib.hid (GotAt.zero _ _ _ _), hO1, hb1⟩
    case round =>
      obtain ⟨t, l, ht, rfl, hll, hp, hO, hb⟩ := hrel
      have HO := Lib.hid hO; clear hO
      by_cases hts : t < 8 * s.size
      · have ht8 : t / 8 < s.size := by omega
        have hat := run_at s ((t : Int) / 8) (t / 8) (by omega) ht8
        have hbit := str_bit (l := s.data.toList) (t := t) (by rw [HSZ.out.2]; exact ht8)
        have hy := byteAt_lt s.data.toList (t / 8)
        have htM : (t : Int) % 8 = ((t % 8 : Nat) : Int) := by omega
        have h8 : t % 8 < 8 := Nat.mod_lt _ (by omega)
        obtain ⟨b, hb2⟩ : ∃ b, b = num s.data.toList / 2 ^ t % 2 := ⟨_, rfl⟩
        have hbl : b < 2 := by omega
        rw [← hb2] at hbit
        generalize byteAt s.data.toList (t / 8) = y at *
        generalize t % 8 = tm at *
        have hand : bits .and .u8 ((y : Int) / 2 ^ tm) 1 = (b : Int) := by
          have e : ((y : Int) / 2 ^ tm) = ((y / 2 ^ tm : Nat) : Int) := by push_cast; rfl
          have hlt : y / 2 ^ tm < 256 := Nat.lt_of_le_of_lt (Nat.div_le_self _ _) hy
          have := and_u8 (y / 2 ^ tm) 1 hlt (by omega)
          rw [and1, hbit] at this
          rw [e]; exact this
        have HB := Lib.hid hb2; clear hb2 hbit
        by_cases htP : t < P
        · have hw0 : 0 < wd := by
            rcases Nat.eq_zero_or_pos wd with h | h
            · exfalso; rw [HP.out, h, Nat.mul_zero] at htP; omega
            · exact h
          obtain ⟨g1, g2, g3, g4⟩ := hp.out.bit hw0 HP.out htP b HB.out
          obtain ⟨hc1, hf1⟩ := own_int_at HO.out hll (t / wd) g1
          rw [g2] at hc1
          have hrl := Nat.mod_lt t hw0
          have hqI : (t : Int) / (wd : Int) = ((t / wd : Nat) : Int) := by push_cast; rfl
          have hqT : (t : Int).tdiv (wd : Int) = ((t / wd : Nat) : Int) := rfl
          have hrI : (t : Int) % (wd : Int) = ((t % wd : Nat) : Int) := by push_cast; rfl
          have hrT : (t : Int).tmod (wd : Int) = ((t % wd : Nat) : Int) := rfl
          have hst := or_win3 (q := num s.data.toList % 2 ^ t / 2 ^ (wd * (t / wd)) % 2 ^ wd) (b := b) (r := t % wd) g3 hbl (by omega)
          generalize num s.data.toList % 2 ^ t / 2 ^ (wd * (t / wd)) % 2 ^ wd = old at *
          generalize t / wd = q at *
          generalize t % wd = r at *
          have HG4 := Lib.hid (And.intro g4 g3); clear g4 g2 g3
          have hwI : (0 : Int) < (wd : Int) := by omega
          generalize hnw : old ||| b * 2 ^ r = nw at *
          clear hnw
          go_wp2
          go_region
          go_wp2
          go_roundw
          case rel => exact ⟨t + 1, _, by omega, by go_num, by rw [List.length_set]; exact hll, Lib.hid HG4.out.1, (Mem.own_put_int HO.out hll q _).drew, (hb.setCell (p := ⟨w.heap.size, q, none⟩) (Nat.le_refl _) _).drew⟩
          case measure => simp [intOf]; omega
        · have htPI : (P : Int) ≤ (t : Int) := by omega
          by_cases hb1 : b = 1
          · obtain ⟨e1, e2⟩ := unpack_rest hw16 HM.out HSZ.out.1 (by rw [Nat.mul_comm wd m, ← HP.out]; exact bad_bit (t := t) (P := P) (by omega) (by rw [← HB.out]; exact hb1))
            have HE := Lib.hid (And.intro e1 e2); clear e1 e2
            subst hb1
            go_wp2
            go_ret2
            exact ⟨_, by rw [HR.out.2, HE.out.2]; rfl, by rw [HR.out.1, HE.out.1]; exact OwnI.nil _ _, hb⟩
          · obtain rfl : b = 0 := by omega
            have hsk := hp.out.skip HB.out.symm
            have HSK := Lib.hid hsk; clear hsk hb1
            go_wp2
            go_roundw
            case rel => exact ⟨t + 1, l, by omega, by go_num, hll, HSK, HO.out, hb⟩
            case measure => simp [intOf]; omega
      · obtain rfl : t = 8 * s.size := by omega
        have hd : l = many_ (num s.data.toList) m wd ∧ num s.data.toList / 2 ^ P = 0 := GotAt.done (by rw [HSZ.out.2]; exact hp.out)
        obtain ⟨e1, e2⟩ := unpack_ok hw16 HM.out HSZ.out.1 (by rw [Nat.mul_comm wd m, ← HP.out]; exact hd.2)
        have HE := Lib.hid (And.intro e1 (And.intro e2 hd.1)); clear e1 e2 hd hp
        go_wp2
        go_ret2
        exact ⟨_, by rw [HR.out.2, HE.out.2.1]; rfl, by rw [HR.out.1, HE.out.1, ← HE.out.2.2]; have := HO.out; exact this, hb⟩
  · obtain ⟨e1, e2⟩ := unpack_cut (s := s.data.toList) hw16 HM.out (by rw [hl, ← HP.out]; exact hlen)
    rw [e1, e2]
    clear e1 e2 hl
    have hleni : ((s.size : Int) != ((P : Int) + 7) / 8) = true := by rw [bne_iff_ne]; omega
    go_enter Try.func112, Try.ntmps112
    go_wp2
    go_ret2
    exact ⟨_, rfl, OwnI.nil _ _, Below.refl _ _⟩
end Go.Proofs.Ytkkpcdpoldjmkaa.Bitpack
