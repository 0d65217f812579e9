/-
  THE WALK of bitpack.Unpack.
-/
import Derived.Test.YtkkpcdpoldjmkaaBitProg2
namespace Go.Proofs.Ytkkpcdpoldjmkaa.Bitpack
open Go.RowKit BitMath Sl

/-- What the loops of Unpack hold: a bytes read, d bits taken, h bits in the window q. -/
def ReadAt (l : List UInt8) (d a h q : Nat) : Prop := 8 * a = d + h ∧ q = num (l.take a) / 2 ^ d
theorem ReadAt.lt {l : List UInt8} {d a h q : Nat} (p : ReadAt l d a h q) : q < 2 ^ h := by
  obtain ⟨h1, rfl⟩ := p
  have hlt : num (l.take a) < 2 ^ (8 * a) := by
    have := num_lt (l.take a)
    rw [p256] at this
    exact Nat.lt_of_lt_of_le this (Nat.pow_le_pow_right (by omega) (by rw [List.length_take]; omega))
  refine Nat.div_lt_of_lt_mul ?_
  rw [← Nat.pow_add, ← h1]; exact hlt
theorem ReadAt.more {l : List UInt8} {d a h q : Nat} (p : ReadAt l d a h q) (ha : a < l.length) : ReadAt l d (a + 1) (h + 8) (q ||| byteAt l a * 2 ^ h) := by
  obtain ⟨h1, rfl⟩ := p
  refine ⟨by omega, ?_⟩
  have := (read_or (d := d) ha (by omega)).1
  rw [show 8 * a - d = h by omega] at this
  exact this
theorem ReadAt.low {l : List UInt8} {d a h q w : Nat} (p : ReadAt l d a h q) (hw : w ≤ h) : q % 2 ^ w = num l / 2 ^ d % 2 ^ w := by
  obtain ⟨h1, rfl⟩ := p
  exact read_low (by omega)
theorem ReadAt.take {l : List UInt8} {d a h q w : Nat} (p : ReadAt l d a h q) (hw : w ≤ h) : ReadAt l (d + w) a (h - w) (q / 2 ^ w) := by
  obtain ⟨h1, rfl⟩ := p
  exact ⟨by omega, read_next _ _ _⟩
theorem or_win2 {q y h : Nat} (hq : q < 2 ^ h) (hy : y < 256) (hh : h < 16) : bits .or .i64 (q : Int) (wrap64 ((y : Int) * 2 ^ h)) = ((q ||| y * 2 ^ h : Nat) : Int) ∧ (q ||| y * 2 ^ h) < 16777216 := by
  have h7 : 2 ^ h ≤ 2 ^ 15 := Nat.pow_le_pow_right (by omega) (by omega)
  have h8 : y * 2 ^ h ≤ 255 * 2 ^ 15 := Nat.mul_le_mul (by omega) h7
  have e : (y : Int) * 2 ^ h = ((y * 2 ^ h : Nat) : Int) := by push_cast; rfl
  have e2 : wrap64 ((y : Int) * 2 ^ h) = ((y * 2 ^ h : Nat) : Int) := by rw [e]; unfold wrap64; omega
  rw [e2]
  exact ⟨or_i64 _ _ (by omega) (by omega), Nat.or_lt_two_pow (n := 24) (by omega) (by omega)⟩

set_option maxRecDepth 100000 in
set_option maxHeartbeats 8000000 in
theorem unpack_any (s : ByteArray) (many width : Int) (w : World) (hs : s.size ≤ maxReach) :
    Calls Try.prog 111 #[.string s, .int .i64 many, .int .i64 width] w fun e w' => ∃ v, e = .returned (.tuple #[v, .int .i64 (unpackE s.data.toList many width)]) ∧ OwnI w' w.heap.size v (unpackL s.data.toList many width) ∧ Below w.heap.size w w' := by
  unfold maxReach at hs
  by_cases hw : wide width
  · obtain ⟨e1, e2⟩ := unpack_wide (s := s.data.toList) (many := many) hw
    rw [e1, e2]
    unfold wide at hw
    clear e1 e2
    go_enter Try.func111, Try.ntmps111
    by_cases h0 : width < 0
    · go_wp2
      go_ret2
      exact ⟨_, rfl, OwnI.nil _ _, Below.refl _ _⟩
    · have h1 : 16 < width := by omega
      go_wp2
      go_ret2
      exact ⟨_, rfl, OwnI.nil _ _, Below.refl _ _⟩
  by_cases hr : many < 0 ∨ 65536 < many
  · obtain ⟨e1, e2⟩ := unpack_range (s := s.data.toList) hw hr
    rw [e1, e2]
    unfold wide at hw
    clear e1 e2
    have k1 : ¬ width < 0 := by omega
    have k2 : ¬ 16 < width := by omega
    clear hw
    go_enter Try.func111, Try.ntmps111
    by_cases h0 : many < 0
    · go_wp2
      go_ret2
      exact ⟨_, rfl, OwnI.nil _ _, Below.refl _ _⟩
    · have h1 : 65536 < many := by omega
      go_wp2
      go_ret2
      exact ⟨_, rfl, OwnI.nil _ _, Below.refl _ _⟩
  obtain ⟨wd, rfl⟩ : ∃ wd : Nat, width = (wd : Nat) := ⟨width.toNat, by unfold wide at hw; omega⟩
  have hw16 : wd ≤ 16 := by unfold wide at hw; omega
  obtain ⟨m, rfl⟩ : ∃ m : Nat, many = (m : Nat) := ⟨many.toNat, by omega⟩
  have hm : m ≤ 65536 := by omega
  have hmI : (m : Int) ≤ 65536 := by omega
  clear hw hr
  obtain ⟨P, hP⟩ : ∃ P, P = m * wd := ⟨_, rfl⟩
  have hPl : P ≤ 1048576 := by rw [hP]; exact Nat.le_trans (Nat.mul_le_mul hm hw16) (by omega)
  have hPI : (m : Int) * (wd : Int) = (P : Int) := by rw [hP]; push_cast; rfl
  have HM := Lib.hid hm; clear hm
  have HP := Lib.hid hP; clear hP
  have hl : s.data.toList.length = s.size := by simp
  by_cases hlen : s.size = (P + 7) / 8
  · obtain ⟨M, hM⟩ : ∃ M, M = 2 ^ wd := ⟨_, rfl⟩
    have hMl : M ≤ 65536 := by rw [hM]; exact Nat.pow_le_pow_right (by omega) hw16
    have hM0 : 0 < M := by rw [hM]; exact Nat.pow_pos (by omega)
    have hMI : (2 : Int) ^ wd = (M : Int) := by rw [hM]; push_cast; rfl
    have HMM := Lib.hid hM; clear hM
    have hleni : ((s.size : Int) != ((P : Int) + 7) / 8) = false := by rw [bne_eq_false_iff_eq]; omega
    obtain ⟨LL, hLL⟩ : ∃ LL, LL = unpackL s.data.toList m wd := ⟨_, rfl⟩
    obtain ⟨E, hE⟩ : ∃ E, E = unpackE s.data.toList m wd := ⟨_, rfl⟩
    rw [← hLL, ← hE]
    have HR := Lib.hid (And.intro hLL hE); clear hLL hE
    have HL := Lib.hid hl; clear hl
    have hMlI : (M : Int) ≤ 65536 := by omega
    go_enter Try.func111, Try.ntmps111
    go_wp2
    go_loopw [8, 9, 10, 11, 36] (fun ov qv hv av iv wr => ∃ k a h q : Nat, k ≤ m ∧ iv = .int .i64 k ∧ h < 8 ∧ hv = .int .i64 h ∧ av = .int .i64 a ∧ a ≤ s.size ∧ qv = .int .i64 q ∧ Hid (ReadAt s.data.toList (wd * k) a h q) ∧ OwnI wr w.heap.size ov (many_ (num s.data.toList) k wd) ∧ Below w.heap.size w wr) (fun _ _ _ _ iv _ => m - (intOf iv).toNat)
    case atStart => exact ⟨0, 0, 0, 0, by omega, rfl, by omega, rfl, rfl, by omega, rfl, Lib.hid ⟨by omega, by simp [num]⟩, OwnI.nil _ _, Below.refl _ _⟩
    case round =>
      obtain ⟨k, a, h, q, hk, rfl, hh, rfl, rfl, ha, rfl, hp, hO, hb⟩ := hrel
      have HO := Lib.hid hO; clear hO
      by_cases hkm : k < m
      · obtain ⟨T, hT⟩ : ∃ T, T = wd * k := ⟨_, rfl⟩
        have hTP : T + wd ≤ P := by rw [hT, HP.out, Nat.mul_comm m, ← Nat.mul_succ]; exact Nat.mul_le_mul_left _ hkm
        rw [← hT] at hp
        have HT := Lib.hid hT; clear hT
        have hkI : (k : Int) < (m : Int) := by omega
        go_wp2
        go_loop [9, 10, 11] (fun qv hv av => ∃ a h q : Nat, hv = .int .i64 h ∧ av = .int .i64 a ∧ a ≤ s.size ∧ qv = .int .i64 q ∧ h < wd + 8 ∧ q < 16777216 ∧ Hid (ReadAt s.data.toList T a h q)) (fun _ hv _ => 40 - (intOf hv).toNat)
        case atStart =>
          have hq := hp.out.lt
          have h2 : 2 ^ h ≤ 2 ^ 7 := Nat.pow_le_pow_right (by omega) (by omega)
          exact ⟨a, h, q, rfl, rfl, ha, rfl, by omega, by omega, hp⟩
        case round =>
          obtain ⟨a, h, q, rfl, rfl, ha, rfl, hh, hq, hp⟩ := hrel
          by_cases hhw : h < wd
          · have has : a < s.size := by have := hp.out.1; omega
            have hat := run_at s (a : Nat) a rfl has
            have hy := byteAt_lt s.data.toList a
            have hmo := hp.out.more (by rw [HL.out]; exact has)
            obtain ⟨hor, hq2⟩ := or_win2 hp.out.lt hy (by omega)
            have HMO := Lib.hid hmo; clear hmo
            generalize byteAt s.data.toList a = y at *
            generalize q ||| y * 2 ^ h = q2 at *
            go_wp2
            go_round
            case rel => exact ⟨a + 1, h + 8, q2, by go_num, by go_num, by omega, rfl, by omega, hq2, HMO⟩
            case measure => simp [intOf]; omega
          · have hlo := hp.out.low (w := wd) (by omega)
            have hta := hp.out.take (w := wd) (by omega)
            have hsn := many_snoc (num s.data.toList) k wd
            rw [← HT.out, ← hlo] at hsn
            have hml := many_length (num s.data.toList) k wd
            rw [← HMM.out] at hta hsn
            have hmask : bits .and .i64 (q : Int) ((M : Int) - 1) = ((q % M : Nat) : Int) := by
              have := and_mask_i64 (q : Int) wd (by omega)
              rw [← HMM.out, show ((M - 1 : Nat) : Int) = (M : Int) - 1 by omega] at this
              rw [this]; omega
            have hdiv : (q : Int) / (M : Int) = ((q / M : Nat) : Int) := by omega
            have hd2 : T + wd = wd * (k + 1) := by rw [HT.out, Nat.mul_succ]
            rw [hd2] at hta
            have HTA := Lib.hid hta; clear hta hlo hd2
            have HSN := Lib.hid hsn; clear hsn
            generalize many_ (num s.data.toList) k wd = L at *
            generalize q % M = r at *
            generalize q / M = q3 at *
            have hh8 : h - wd < 8 := by omega
            have hhs : (h : Int) - (wd : Int) = ((h - wd : Nat) : Int) := by omega
            go_wp2_with (first
              | (refine wpList_push_int rfl _ _ rfl w.heap.size _ L (r : Nat) wr.heap.size 1 rfl rfl (t := 3) (fr := (0, 0)) (heap_alloc_new wr _) (HO.out.alloc _) (by unfold few; have := HM.out; omega) (by have := hb.size; simp; omega) ?_; intro u wA hA hgA hatA; have HA := Lib.hid hA; clear hA))
            go_roundw
            case rel => exact ⟨k + 1, a, h - wd, q3, by omega, by go_num, hh8, rfl, rfl, ha, rfl, Lib.hid HTA.out, by rw [HSN.out]; exact HA.out, (hb.alloc hb.size _).grown hgA (by have := hb.size; simp; omega) (own_base HO.out)⟩
            case measure => simp [intOf]; omega
      · obtain rfl : k = m := by omega
        have h1 := hp.out.1
        rw [Nat.mul_comm wd k, ← HP.out] at h1
        have hae : a = s.size := by omega
        have htk : s.data.toList.take a = s.data.toList := List.take_of_length_le (by rw [HL.out, hae]; exact Nat.le_refl _)
        have hq := hp.out.2
        rw [htk] at hq
        have hsz : s.data.toList.length = (k * wd + 7) / 8 := by rw [HL.out, hlen, HP.out]
        by_cases h0 : q = 0
        · subst h0
          obtain ⟨e1, e2⟩ := unpack_ok hw16 HM.out hsz hq.symm
          have HE := Lib.hid (And.intro e1 e2)
          clear e1 e2 hq hsz htk hae h1 hp
          go_wp2
          go_ret2
          exact ⟨_, by rw [HR.out.2, HE.out.2]; rfl, by rw [HR.out.1, HE.out.1]; exact HO.out, hb⟩
        · obtain ⟨e1, e2⟩ := unpack_rest hw16 HM.out hsz (by rw [← hq]; exact h0)
          have HE := Lib.hid (And.intro e1 e2)
          have hqI : ((q : Int) != 0) = true := by rw [bne_iff_ne]; omega
          clear e1 e2 hq hsz htk hae h1 hp h0
          go_wp2
          go_ret2
          exact ⟨_, by rw [HR.out.2, HE.out.2]; rfl, by rw [HR.out.1, HE.out.1]; exact OwnI.nil _ _, hb⟩
  · obtain ⟨e1, e2⟩ := unpack_cut (s := s.data.toList) hw16 HM.out (by rw [hl, ← HP.out]; exact hlen)
    rw [e1, e2]
    clear e1 e2 hl
    have hleni : ((s.size : Int) != ((P : Int) + 7) / 8) = true := by rw [bne_iff_ne]; omega
    go_enter Try.func111, Try.ntmps111
    go_wp2
    go_ret2
    exact ⟨_, rfl, OwnI.nil _ _, Below.refl _ _⟩
end Go.Proofs.Ytkkpcdpoldjmkaa.Bitpack
