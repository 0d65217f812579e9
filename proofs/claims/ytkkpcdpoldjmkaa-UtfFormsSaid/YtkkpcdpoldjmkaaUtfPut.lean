/-
  THE WALKS of utf.Put and boathouseref1.PutRune.
-/
import Derived.Test.YtkkpcdpoldjmkaaUtfProg2
import Derived.Test.YtkkpcdpoldjmkaaMake
namespace Go.Proofs.Ytkkpcdpoldjmkaa.Utf
open Go.RowKit UtfMath

/-- What Put answers. -/
def putS (r : Int) : List UInt8 := if mayI r then put r.toNat else []
def putE (r : Int) : Int := if mayI r then 0 else 200
theorem byte_or {r : Nat} : bits .and .i64 (r : Int) 63 = ((r % 64 : Nat) : Int) := by
  have := and_mask_i64 (r : Int) 6 (by omega)
  rw [show ((2 ^ 6 - 1 : Nat) : Int) = 63 from rfl] at this
  rw [this]; omega
theorem or_128 {y : Nat} (hy : y < 64) : bits .or .i64 128 (y : Int) = ((128 + y : Nat) : Int) := by
  have h := or_i64 128 y (by omega) (by omega)
  have e : ∀ z : Fin 64, 128 ||| z.val = 128 + z.val := by decide
  rw [e ⟨y, hy⟩] at h; exact h

set_option maxRecDepth 100000 in
set_option maxHeartbeats 16000000 in
theorem put_any (r : Int) (w : World) : Calls Try.prog 102 #[.int .i64 r] w fun e w' => e = .returned (.tuple #[.string (str (putS r)), .int .i64 (putE r)]) ∧ Below w.heap.size w w' := by
  have HM := Lib.hid (fun w => may_any r w)
  have HF := Lib.hid forms_any
  unfold putS putE
  cases hmy : mayI r with
  | false =>
    rw [if_neg (by simp), if_neg (by simp)]
    rw [hmy] at HM
    clear hmy
    go_enter Try.func102, Try.ntmps102
    go_wp2_with (go_at_call 153; with_reducible refine (HM.out _).mono ?_; rintro e w' ⟨rfl, rfl⟩)
    go_ret2
    exact ⟨rfl, Below.refl _ _⟩
  | true =>
    rw [if_pos rfl, if_pos rfl]
    rw [hmy] at HM
    obtain ⟨r0, rfl⟩ : ∃ r0 : Nat, r = (r0 : Nat) := ⟨r.toNat, by unfold mayI at hmy; have := of_decide_eq_true hmy; omega⟩
    have hrl : r0 ≤ 1114111 := by unfold mayI at hmy; have := of_decide_eq_true hmy; omega
    rw [Int.toNat_natCast]
    have HR := Lib.hid (And.intro hrl hmy); clear hrl hmy
    obtain ⟨S, hS⟩ : ∃ S, S = str (put r0) := ⟨_, rfl⟩
    rw [← hS]
    have HSS := Lib.hid hS; clear hS
    have hsz := size_bounds r0
    obtain ⟨sz, hszz⟩ : ∃ sz, UtfMath.sizeOf_ r0 = sz := ⟨_, rfl⟩
    rw [hszz] at hsz
    have HS := Lib.hid hszz; clear hszz
    go_enter Try.func102, Try.ntmps102
    go_wp2_with (first
      | (go_at_call 153; with_reducible refine (HM.out _).mono ?_; rintro e w' ⟨rfl, rfl⟩)
      | (go_at_call 152; with_reducible refine (HF.out _).mono ?_; unfold formsV; rintro e w2 ⟨rfl, hb2⟩))
    obtain ⟨wf, hwf⟩ : ∃ wf : World, wf = w2.alloc (.cells #[.int .i64 0, .int .i64 0, .int .i64 0, .int .i64 128, .int .i64 0, .int .i64 0, .int .i64 224, .int .i64 192, .int .i64 128, .int .i64 240, .int .i64 224, .int .i64 2048, .int .i64 248, .int .i64 240, .int .i64 65536] 169) := ⟨_, rfl⟩
    have hrow : wf.heap[w2.heap.size]? = some (.cells #[.int .i64 0, .int .i64 0, .int .i64 0, .int .i64 128, .int .i64 0, .int .i64 0, .int .i64 224, .int .i64 192, .int .i64 128, .int .i64 240, .int .i64 224, .int .i64 2048, .int .i64 248, .int .i64 240, .int .i64 65536] 169 (0, 0)) := by rw [hwf]; exact heap_alloc_new w2 _
    have HLT : Hid (w2.heap.size < wf.heap.size) := Lib.hid (by rw [hwf]; simp)
    have HBF : Hid (Below w.heap.size w wf) := Lib.hid (by rw [hwf]; exact hb2.alloc hb2.size _)
    rw [← hwf]
    clear hwf hb2
    have cc1 : wf.cell? ⟨w2.heap.size, 5, none⟩ = some (.int .i64 0) := cell_of_row _ _ _ _ _ _ hrow
    have cc2 : wf.cell? ⟨w2.heap.size, 8, none⟩ = some (.int .i64 128) := cell_of_row _ _ _ _ _ _ hrow
    have cc3 : wf.cell? ⟨w2.heap.size, 11, none⟩ = some (.int .i64 2048) := cell_of_row _ _ _ _ _ _ hrow
    have cc4 : wf.cell? ⟨w2.heap.size, 14, none⟩ = some (.int .i64 65536) := cell_of_row _ _ _ _ _ _ hrow
    have ch1 : wf.cell? ⟨w2.heap.size, 4, none⟩ = some (.int .i64 0) := cell_of_row _ _ _ _ _ _ hrow
    have ch2 : wf.cell? ⟨w2.heap.size, 7, none⟩ = some (.int .i64 192) := cell_of_row _ _ _ _ _ _ hrow
    have ch3 : wf.cell? ⟨w2.heap.size, 10, none⟩ = some (.int .i64 224) := cell_of_row _ _ _ _ _ _ hrow
    have ch4 : wf.cell? ⟨w2.heap.size, 13, none⟩ = some (.int .i64 240) := cell_of_row _ _ _ _ _ _ hrow
    clear hrow
    have hsz2 := hsz.2
    have hsz1 := hsz.1
    clear hsz
    go_loop [5] (fun nv => ∃ n : Nat, sz ≤ n ∧ n ≤ 4 ∧ nv = .int .i64 n) (fun nv => (intOf nv).toNat)
    case atStart => exact ⟨4, hsz2, by omega, rfl⟩
    case round =>
      obtain ⟨n, hn1, hn4, rfl⟩ := hrel
      have hns : n = 1 ∨ n = 2 ∨ n = 3 ∨ n = 4 := by omega
      clear hn4
      rcases hns with rfl | rfl | rfl | rfl
      ·
        by_cases hsk : sz < 1
        · (try (exfalso; omega))
          all_goals
            have hlt := (size_least (r := r0) (n := 1) (by omega) (by omega) (by rw [HS.out]; omega)).2 (by rw [HS.out]; exact hsk)
            have hlt2 : (r0 : Int) < 0 := by rw [show UtfMath.leastOf 1 = 0 from rfl] at hlt; omega
            have hcc := cc1
            clear hlt
            generalize hr0I : (r0 : Int) = rI at *
            go_wp2
            go_round
            case rel => exact ⟨1 - 1, by omega, by omega, by go_num⟩
            case measure => simp [intOf]
        · obtain rfl : sz = 1 := by omega
          have hge : ¬ r0 < UtfMath.leastOf 1 := fun h => hsk ((size_least (r := r0) (n := 1) (by omega) (by omega) (by rw [HS.out]; exact Nat.le_refl _)).1 h |> fun h2 => by rw [HS.out] at h2; exact h2)
          have hge2 : ¬ (r0 : Int) < 0 := by rw [show UtfMath.leastOf 1 = 0 from rfl] at hge; omega
          have hcc := cc1
          have hch := ch1
          obtain ⟨hp1, hp2⟩ := put_head (r := r0) HR.out.1
          rw [HS.out] at hp1 hp2
          have hlow : ∀ j, 1 ≤ j → j < 1 → at_ (put r0) j = 128 + r0 / 64 ^ (1 - 1 - j) % 64 := fun j h1 h2 => by have := put_low (r := r0) h1 (by rw [HS.out]; exact h2); rw [HS.out] at this; exact this
          have hlen : (put r0).length = 1 := by rw [put_size, HS.out]
          rw [show UtfMath.headOf 1 = 0 from rfl] at hp1 hp2
          have HPP := Lib.hid (And.intro hp1 (And.intro hp2 (And.intro hlow hlen))); clear hp1 hp2 hlow hlen hge hsk
          have HRI : Hid ((r0 : Int) = ((r0 / 64 ^ (1 - 1 - (1 - 1)) : Nat) : Int)) := Lib.hid (by simp)
          generalize hr0I : (r0 : Int) = rI at *
          have HR0 := Lib.hid hr0I; clear hr0I
          go_wp2_with (first
            | (at_make; refine wpList_make_bytes rfl _ _ rfl w.heap.size .i64 .i64 _ _ 1 rfl rfl rfl rfl (by omega) HBF.out.size ?_; intro w3 hO3 hg3 hsz3))
          have hb3 : Below wf.heap.size wf w3 := (Below.refl _ _).grown hg3 (Nat.le_refl _) (fun j hj => by cases hj)
          go_loopw [0, 7] (fun rv iv wr => ∃ (i q : Nat) (L : List UInt8), i < 1 ∧ iv = .int .i64 i ∧ rv = .int .i64 q ∧ Hid (q = r0 / 64 ^ (1 - 1 - i)) ∧ L.length = 1 ∧ OwnB wr w.heap.size (.slice (some ⟨wf.heap.size, 0, none⟩) 1 1) L ∧ Hid (∀ j, i < j → j < 1 → byteAt L j = at_ (put r0) j) ∧ Below wf.heap.size wf wr) (fun _ iv _ => (intOf iv).toNat)
          case atStart => exact ⟨1 - 1, r0, List.replicate 1 0, by omega, by go_num, by rw [HR0.out], Lib.hid (by simp), by simp, hO3, Lib.hid (fun j h1 h2 => by omega), hb3⟩
          case round =>
            obtain ⟨i, q, L, hi, rfl, rfl, hq, hL, hO, hj, hb⟩ := hrel
            have HO := Lib.hid hO; clear hO
            by_cases hi0 : 0 < i
            · (try (exfalso; omega))
              all_goals
                obtain ⟨hcb, hfb⟩ := own_byte_at HO.out hL i hi
                have ha := byte_or (r := q)
                have ho := or_128 (y := q % 64) (Nat.mod_lt _ (by omega))
                have hy : q % 64 < 64 := Nat.mod_lt _ (by omega)
                have hjn : ∀ j, i - 1 < j → j < 1 → byteAt (L.set i (UInt8.ofNat (128 + q % 64))) j = at_ (put r0) j := fun j h1 h2 => by
                  rw [byteAt_set _ _ _ _ (by omega)]
                  by_cases h : j = i
                  · subst h; rw [if_pos rfl, UInt8.toNat_ofNat', Nat.mod_eq_of_lt (by omega), HPP.out.2.2.1 j (by omega) h2, hq.out]
                  · rw [if_neg h]; exact hj.out j (by omega) h2
                have hqn : q / 64 = r0 / 64 ^ (1 - 1 - (i - 1)) := by rw [hq.out, Nat.div_div_eq_div_mul, ← Nat.pow_succ]; congr 2; omega
                have HJN := Lib.hid (And.intro hjn hqn); clear hjn hqn
                have hbv : bv (UInt8.ofNat (128 + q % 64)) = .int .u8 (128 + ((q % 64 : Nat) : Int)) := by unfold bv; rw [UInt8.toNat_ofNat', Nat.mod_eq_of_lt (by omega)]; congr 1
                have hO2 := own_put_byte HO.out hL i (UInt8.ofNat (128 + q % 64))
                rw [hbv] at hO2
                have HO2 := Lib.hid hO2; clear hO2 hbv
                generalize UInt8.ofNat (128 + q % 64) = ub at *
                generalize q % 64 = y at *
                have hyI : ((128 + y : Nat) : Int) = 128 + (y : Int) := by omega
                rw [hyI] at ho
                clear hyI
                go_wp2
                go_roundw
                case rel => exact ⟨i - 1, q / 64, _, by omega, by go_num, by go_num, Lib.hid HJN.out.2, by rw [List.length_set]; exact hL, HO2.out, Lib.hid HJN.out.1, hb.setCell (p := ⟨wf.heap.size, i, none⟩) (Nat.le_refl _) _⟩
                case measure => simp [intOf]; omega
            · obtain rfl : i = 0 := by omega
              obtain ⟨hcb, hfb⟩ := own_byte_at HO.out hL 0 (by omega)
              have hq0 := hq.out
              rw [Nat.sub_zero] at hq0
              have hhd := HPP.out.1
              have hhl := HPP.out.2.1
              rw [← hq0] at hhd hhl
              have hor := or_i64 0 q (by omega) (by rw [hq0]; exact Nat.lt_of_le_of_lt (Nat.div_le_self _ _) (by have := HR.out.1; omega))
              have hchw := (hb.cell (p := ⟨w2.heap.size, 4, none⟩) HLT.out).trans hch
              obtain ⟨z, hz⟩ : ∃ z, z = 0 ||| q := ⟨_, rfl⟩
              rw [← hz] at hhd hhl hor
              rw [show ((0 : Nat) : Int) = 0 from rfl] at hor
              have hbv : bv (UInt8.ofNat z) = .int .u8 (z : Int) := by unfold bv; rw [UInt8.toNat_ofNat', Nat.mod_eq_of_lt (by omega)]
              have hfin : L.set 0 (UInt8.ofNat z) = put r0 := by
                refine List.ext_getElem (by rw [List.length_set, hL, HPP.out.2.2.2]) fun j h1 h2 => ?_
                have hj1 : j < 1 := by rw [HPP.out.2.2.2] at h2; exact h2
                have e : byteAt (L.set 0 (UInt8.ofNat z)) j = byteAt (put r0) j := by
                  rw [byteAt_set _ _ _ _ (by omega)]
                  by_cases h : j = 0
                  · subst h; rw [if_pos rfl, UInt8.toNat_ofNat', Nat.mod_eq_of_lt (by omega)]; exact hhd.symm
                  · rw [if_neg h]; exact hj.out j (by omega) hj1
                rw [byteAt_get _ _ h1, byteAt_get _ _ h2] at e
                exact UInt8.toNat_inj.1 e
              have hO2 := own_put_byte HO.out hL 0 (UInt8.ofNat z)
              rw [hbv, hfin] at hO2
              have HO2 := Lib.hid hO2; clear hO2 hbv hfin hhd hz hq0 hq
              have hzl : (z : Int) < 256 := by omega
              clear hhl
              go_wp2_with (first
                | (refine wpList_own_string rfl _ _ 5 _ rfl _ rfl w.heap.size (put r0) HO2.out Try.underlying32 Try.underlying5 Try.underlying9 ?_))
              go_ret2
              exact ⟨by rw [HSS.out]; rfl, bthen HBF.out (hb.setCell (p := ⟨wf.heap.size, 0, none⟩) (Nat.le_refl _) _) (Nat.le_refl _)⟩
      ·
        by_cases hsk : sz < 2
        · (try (exfalso; omega))
          all_goals
            have hlt := (size_least (r := r0) (n := 2) (by omega) (by omega) (by rw [HS.out]; omega)).2 (by rw [HS.out]; exact hsk)
            have hlt2 : (r0 : Int) < 128 := by rw [show UtfMath.leastOf 2 = 128 from rfl] at hlt; omega
            have hcc := cc2
            clear hlt
            generalize hr0I : (r0 : Int) = rI at *
            go_wp2
            go_round
            case rel => exact ⟨2 - 1, by omega, by omega, by go_num⟩
            case measure => simp [intOf]
        · obtain rfl : sz = 2 := by omega
          have hge : ¬ r0 < UtfMath.leastOf 2 := fun h => hsk ((size_least (r := r0) (n := 2) (by omega) (by omega) (by rw [HS.out]; exact Nat.le_refl _)).1 h |> fun h2 => by rw [HS.out] at h2; exact h2)
          have hge2 : ¬ (r0 : Int) < 128 := by rw [show UtfMath.leastOf 2 = 128 from rfl] at hge; omega
          have hcc := cc2
          have hch := ch2
          obtain ⟨hp1, hp2⟩ := put_head (r := r0) HR.out.1
          rw [HS.out] at hp1 hp2
          have hlow : ∀ j, 1 ≤ j → j < 2 → at_ (put r0) j = 128 + r0 / 64 ^ (2 - 1 - j) % 64 := fun j h1 h2 => by have := put_low (r := r0) h1 (by rw [HS.out]; exact h2); rw [HS.out] at this; exact this
          have hlen : (put r0).length = 2 := by rw [put_size, HS.out]
          rw [show UtfMath.headOf 2 = 192 from rfl] at hp1 hp2
          have HPP := Lib.hid (And.intro hp1 (And.intro hp2 (And.intro hlow hlen))); clear hp1 hp2 hlow hlen hge hsk
          have HRI : Hid ((r0 : Int) = ((r0 / 64 ^ (2 - 1 - (2 - 1)) : Nat) : Int)) := Lib.hid (by simp)
          generalize hr0I : (r0 : Int) = rI at *
          have HR0 := Lib.hid hr0I; clear hr0I
          go_wp2_with (first
            | (at_make; refine wpList_make_bytes rfl _ _ rfl w.heap.size .i64 .i64 _ _ 2 rfl rfl rfl rfl (by omega) HBF.out.size ?_; intro w3 hO3 hg3 hsz3))
          have hb3 : Below wf.heap.size wf w3 := (Below.refl _ _).grown hg3 (Nat.le_refl _) (fun j hj => by cases hj)
          go_loopw [0, 7] (fun rv iv wr => ∃ (i q : Nat) (L : List UInt8), i < 2 ∧ iv = .int .i64 i ∧ rv = .int .i64 q ∧ Hid (q = r0 / 64 ^ (2 - 1 - i)) ∧ L.length = 2 ∧ OwnB wr w.heap.size (.slice (some ⟨wf.heap.size, 0, none⟩) 2 2) L ∧ Hid (∀ j, i < j → j < 2 → byteAt L j = at_ (put r0) j) ∧ Below wf.heap.size wf wr) (fun _ iv _ => (intOf iv).toNat)
          case atStart => exact ⟨2 - 1, r0, List.replicate 2 0, by omega, by go_num, by rw [HR0.out], Lib.hid (by simp), by simp, hO3, Lib.hid (fun j h1 h2 => by omega), hb3⟩
          case round =>
            obtain ⟨i, q, L, hi, rfl, rfl, hq, hL, hO, hj, hb⟩ := hrel
            have HO := Lib.hid hO; clear hO
            by_cases hi0 : 0 < i
            · (try (exfalso; omega))
              all_goals
                obtain ⟨hcb, hfb⟩ := own_byte_at HO.out hL i hi
                have ha := byte_or (r := q)
                have ho := or_128 (y := q % 64) (Nat.mod_lt _ (by omega))
                have hy : q % 64 < 64 := Nat.mod_lt _ (by omega)
                have hjn : ∀ j, i - 1 < j → j < 2 → byteAt (L.set i (UInt8.ofNat (128 + q % 64))) j = at_ (put r0) j := fun j h1 h2 => by
                  rw [byteAt_set _ _ _ _ (by omega)]
                  by_cases h : j = i
                  · subst h; rw [if_pos rfl, UInt8.toNat_ofNat', Nat.mod_eq_of_lt (by omega), HPP.out.2.2.1 j (by omega) h2, hq.out]
                  · rw [if_neg h]; exact hj.out j (by omega) h2
                have hqn : q / 64 = r0 / 64 ^ (2 - 1 - (i - 1)) := by rw [hq.out, Nat.div_div_eq_div_mul, ← Nat.pow_succ]; congr 2; omega
                have HJN := Lib.hid (And.intro hjn hqn); clear hjn hqn
                have hbv : bv (UInt8.ofNat (128 + q % 64)) = .int .u8 (128 + ((q % 64 : Nat) : Int)) := by unfold bv; rw [UInt8.toNat_ofNat', Nat.mod_eq_of_lt (by omega)]; congr 1
                have hO2 := own_put_byte HO.out hL i (UInt8.ofNat (128 + q % 64))
                rw [hbv] at hO2
                have HO2 := Lib.hid hO2; clear hO2 hbv
                generalize UInt8.ofNat (128 + q % 64) = ub at *
                generalize q % 64 = y at *
                have hyI : ((128 + y : Nat) : Int) = 128 + (y : Int) := by omega
                rw [hyI] at ho
                clear hyI
                go_wp2
                go_roundw
                case rel => exact ⟨i - 1, q / 64, _, by omega, by go_num, by go_num, Lib.hid HJN.out.2, by rw [List.length_set]; exact hL, HO2.out, Lib.hid HJN.out.1, hb.setCell (p := ⟨wf.heap.size, i, none⟩) (Nat.le_refl _) _⟩
                case measure => simp [intOf]; omega
            · obtain rfl : i = 0 := by omega
              obtain ⟨hcb, hfb⟩ := own_byte_at HO.out hL 0 (by omega)
              have hq0 := hq.out
              rw [Nat.sub_zero] at hq0
              have hhd := HPP.out.1
              have hhl := HPP.out.2.1
              rw [← hq0] at hhd hhl
              have hor := or_i64 192 q (by omega) (by rw [hq0]; exact Nat.lt_of_le_of_lt (Nat.div_le_self _ _) (by have := HR.out.1; omega))
              have hchw := (hb.cell (p := ⟨w2.heap.size, 7, none⟩) HLT.out).trans hch
              obtain ⟨z, hz⟩ : ∃ z, z = 192 ||| q := ⟨_, rfl⟩
              rw [← hz] at hhd hhl hor
              rw [show ((192 : Nat) : Int) = 192 from rfl] at hor
              have hbv : bv (UInt8.ofNat z) = .int .u8 (z : Int) := by unfold bv; rw [UInt8.toNat_ofNat', Nat.mod_eq_of_lt (by omega)]
              have hfin : L.set 0 (UInt8.ofNat z) = put r0 := by
                refine List.ext_getElem (by rw [List.length_set, hL, HPP.out.2.2.2]) fun j h1 h2 => ?_
                have hj1 : j < 2 := by rw [HPP.out.2.2.2] at h2; exact h2
                have e : byteAt (L.set 0 (UInt8.ofNat z)) j = byteAt (put r0) j := by
                  rw [byteAt_set _ _ _ _ (by omega)]
                  by_cases h : j = 0
                  · subst h; rw [if_pos rfl, UInt8.toNat_ofNat', Nat.mod_eq_of_lt (by omega)]; exact hhd.symm
                  · rw [if_neg h]; exact hj.out j (by omega) hj1
                rw [byteAt_get _ _ h1, byteAt_get _ _ h2] at e
                exact UInt8.toNat_inj.1 e
              have hO2 := own_put_byte HO.out hL 0 (UInt8.ofNat z)
              rw [hbv, hfin] at hO2
              have HO2 := Lib.hid hO2; clear hO2 hbv hfin hhd hz hq0 hq
              have hzl : (z : Int) < 256 := by omega
              clear hhl
              go_wp2_with (first
                | (refine wpList_own_string rfl _ _ 5 _ rfl _ rfl w.heap.size (put r0) HO2.out Try.underlying32 Try.underlying5 Try.underlying9 ?_))
              go_ret2
              exact ⟨by rw [HSS.out]; rfl, bthen HBF.out (hb.setCell (p := ⟨wf.heap.size, 0, none⟩) (Nat.le_refl _) _) (Nat.le_refl _)⟩
      ·
        by_cases hsk : sz < 3
        · (try (exfalso; omega))
          all_goals
            have hlt := (size_least (r := r0) (n := 3) (by omega) (by omega) (by rw [HS.out]; omega)).2 (by rw [HS.out]; exact hsk)
            have hlt2 : (r0 : Int) < 2048 := by rw [show UtfMath.leastOf 3 = 2048 from rfl] at hlt; omega
            have hcc := cc3
            clear hlt
            generalize hr0I : (r0 : Int) = rI at *
            go_wp2
            go_round
            case rel => exact ⟨3 - 1, by omega, by omega, by go_num⟩
            case measure => simp [intOf]
        · obtain rfl : sz = 3 := by omega
          have hge : ¬ r0 < UtfMath.leastOf 3 := fun h => hsk ((size_least (r := r0) (n := 3) (by omega) (by omega) (by rw [HS.out]; exact Nat.le_refl _)).1 h |> fun h2 => by rw [HS.out] at h2; exact h2)
          have hge2 : ¬ (r0 : Int) < 2048 := by rw [show UtfMath.leastOf 3 = 2048 from rfl] at hge; omega
          have hcc := cc3
          have hch := ch3
          obtain ⟨hp1, hp2⟩ := put_head (r := r0) HR.out.1
          rw [HS.out] at hp1 hp2
          have hlow : ∀ j, 1 ≤ j → j < 3 → at_ (put r0) j = 128 + r0 / 64 ^ (3 - 1 - j) % 64 := fun j h1 h2 => by have := put_low (r := r0) h1 (by rw [HS.out]; exact h2); rw [HS.out] at this; exact this
          have hlen : (put r0).length = 3 := by rw [put_size, HS.out]
          rw [show UtfMath.headOf 3 = 224 from rfl] at hp1 hp2
          have HPP := Lib.hid (And.intro hp1 (And.intro hp2 (And.intro hlow hlen))); clear hp1 hp2 hlow hlen hge hsk
          have HRI : Hid ((r0 : Int) = ((r0 / 64 ^ (3 - 1 - (3 - 1)) : Nat) : Int)) := Lib.hid (by simp)
          generalize hr0I : (r0 : Int) = rI at *
          have HR0 := Lib.hid hr0I; clear hr0I
          go_wp2_with (first
            | (at_make; refine wpList_make_bytes rfl _ _ rfl w.heap.size .i64 .i64 _ _ 3 rfl rfl rfl rfl (by omega) HBF.out.size ?_; intro w3 hO3 hg3 hsz3))
          have hb3 : Below wf.heap.size wf w3 := (Below.refl _ _).grown hg3 (Nat.le_refl _) (fun j hj => by cases hj)
          go_loopw [0, 7] (fun rv iv wr => ∃ (i q : Nat) (L : List UInt8), i < 3 ∧ iv = .int .i64 i ∧ rv = .int .i64 q ∧ Hid (q = r0 / 64 ^ (3 - 1 - i)) ∧ L.length = 3 ∧ OwnB wr w.heap.size (.slice (some ⟨wf.heap.size, 0, none⟩) 3 3) L ∧ Hid (∀ j, i < j → j < 3 → byteAt L j = at_ (put r0) j) ∧ Below wf.heap.size wf wr) (fun _ iv _ => (intOf iv).toNat)
          case atStart => exact ⟨3 - 1, r0, List.replicate 3 0, by omega, by go_num, by rw [HR0.out], Lib.hid (by simp), by simp, hO3, Lib.hid (fun j h1 h2 => by omega), hb3⟩
          case round =>
            obtain ⟨i, q, L, hi, rfl, rfl, hq, hL, hO, hj, hb⟩ := hrel
            have HO := Lib.hid hO; clear hO
            by_cases hi0 : 0 < i
            · (try (exfalso; omega))
              all_goals
                obtain ⟨hcb, hfb⟩ := own_byte_at HO.out hL i hi
                have ha := byte_or (r := q)
                have ho := or_128 (y := q % 64) (Nat.mod_lt _ (by omega))
                have hy : q % 64 < 64 := Nat.mod_lt _ (by omega)
                have hjn : ∀ j, i - 1 < j → j < 3 → byteAt (L.set i (UInt8.ofNat (128 + q % 64))) j = at_ (put r0) j := fun j h1 h2 => by
                  rw [byteAt_set _ _ _ _ (by omega)]
                  by_cases h : j = i
                  · subst h; rw [if_pos rfl, UInt8.toNat_ofNat', Nat.mod_eq_of_lt (by omega), HPP.out.2.2.1 j (by omega) h2, hq.out]
                  · rw [if_neg h]; exact hj.out j (by omega) h2
                have hqn : q / 64 = r0 / 64 ^ (3 - 1 - (i - 1)) := by rw [hq.out, Nat.div_div_eq_div_mul, ← Nat.pow_succ]; congr 2; omega
                have HJN := Lib.hid (And.intro hjn hqn); clear hjn hqn
                have hbv : bv (UInt8.ofNat (128 + q % 64)) = .int .u8 (128 + ((q % 64 : Nat) : Int)) := by unfold bv; rw [UInt8.toNat_ofNat', Nat.mod_eq_of_lt (by omega)]; congr 1
                have hO2 := own_put_byte HO.out hL i (UInt8.ofNat (128 + q % 64))
                rw [hbv] at hO2
                have HO2 := Lib.hid hO2; clear hO2 hbv
                generalize UInt8.ofNat (128 + q % 64) = ub at *
                generalize q % 64 = y at *
                have hyI : ((128 + y : Nat) : Int) = 128 + (y : Int) := by omega
                rw [hyI] at ho
                clear hyI
                go_wp2
                go_roundw
                case rel => exact ⟨i - 1, q / 64, _, by omega, by go_num, by go_num, Lib.hid HJN.out.2, by rw [List.length_set]; exact hL, HO2.out, Lib.hid HJN.out.1, hb.setCell (p := ⟨wf.heap.size, i, none⟩) (Nat.le_refl _) _⟩
                case measure => simp [intOf]; omega
            · obtain rfl : i = 0 := by omega
              obtain ⟨hcb, hfb⟩ := own_byte_at HO.out hL 0 (by omega)
              have hq0 := hq.out
              rw [Nat.sub_zero] at hq0
              have hhd := HPP.out.1
              have hhl := HPP.out.2.1
              rw [← hq0] at hhd hhl
              have hor := or_i64 224 q (by omega) (by rw [hq0]; exact Nat.lt_of_le_of_lt (Nat.div_le_self _ _) (by have := HR.out.1; omega))
              have hchw := (hb.cell (p := ⟨w2.heap.size, 10, none⟩) HLT.out).trans hch
              obtain ⟨z, hz⟩ : ∃ z, z = 224 ||| q := ⟨_, rfl⟩
              rw [← hz] at hhd hhl hor
              rw [show ((224 : Nat) : Int) = 224 from rfl] at hor
              have hbv : bv (UInt8.ofNat z) = .int .u8 (z : Int) := by unfold bv; rw [UInt8.toNat_ofNat', Nat.mod_eq_of_lt (by omega)]
              have hfin : L.set 0 (UInt8.ofNat z) = put r0 := by
                refine List.ext_getElem (by rw [List.length_set, hL, HPP.out.2.2.2]) fun j h1 h2 => ?_
                have hj1 : j < 3 := by rw [HPP.out.2.2.2] at h2; exact h2
                have e : byteAt (L.set 0 (UInt8.ofNat z)) j = byteAt (put r0) j := by
                  rw [byteAt_set _ _ _ _ (by omega)]
                  by_cases h : j = 0
                  · subst h; rw [if_pos rfl, UInt8.toNat_ofNat', Nat.mod_eq_of_lt (by omega)]; exact hhd.symm
                  · rw [if_neg h]; exact hj.out j (by omega) hj1
                rw [byteAt_get _ _ h1, byteAt_get _ _ h2] at e
                exact UInt8.toNat_inj.1 e
              have hO2 := own_put_byte HO.out hL 0 (UInt8.ofNat z)
              rw [hbv, hfin] at hO2
              have HO2 := Lib.hid hO2; clear hO2 hbv hfin hhd hz hq0 hq
              have hzl : (z : Int) < 256 := by omega
              clear hhl
              go_wp2_with (first
                | (refine wpList_own_string rfl _ _ 5 _ rfl _ rfl w.heap.size (put r0) HO2.out Try.underlying32 Try.underlying5 Try.underlying9 ?_))
              go_ret2
              exact ⟨by rw [HSS.out]; rfl, bthen HBF.out (hb.setCell (p := ⟨wf.heap.size, 0, none⟩) (Nat.le_refl _) _) (Nat.le_refl _)⟩
      ·
        by_cases hsk : sz < 4
        · (try (exfalso; omega))
          all_goals
            have hlt := (size_least (r := r0) (n := 4) (by omega) (by omega) (by rw [HS.out]; omega)).2 (by rw [HS.out]; exact hsk)
            have hlt2 : (r0 : Int) < 65536 := by rw [show UtfMath.leastOf 4 = 65536 from rfl] at hlt; omega
            have hcc := cc4
            clear hlt
            generalize hr0I : (r0 : Int) = rI at *
            go_wp2
            go_round
            case rel => exact ⟨4 - 1, by omega, by omega, by go_num⟩
            case measure => simp [intOf]
        · obtain rfl : sz = 4 := by omega
          have hge : ¬ r0 < UtfMath.leastOf 4 := fun h => hsk ((size_least (r := r0) (n := 4) (by omega) (by omega) (by rw [HS.out]; exact Nat.le_refl _)).1 h |> fun h2 => by rw [HS.out] at h2; exact h2)
          have hge2 : ¬ (r0 : Int) < 65536 := by rw [show UtfMath.leastOf 4 = 65536 from rfl] at hge; omega
          have hcc := cc4
          have hch := ch4
          obtain ⟨hp1, hp2⟩ := put_head (r := r0) HR.out.1
          rw [HS.out] at hp1 hp2
          have hlow : ∀ j, 1 ≤ j → j < 4 → at_ (put r0) j = 128 + r0 / 64 ^ (4 - 1 - j) % 64 := fun j h1 h2 => by have := put_low (r := r0) h1 (by rw [HS.out]; exact h2); rw [HS.out] at this; exact this
          have hlen : (put r0).length = 4 := by rw [put_size, HS.out]
          rw [show UtfMath.headOf 4 = 240 from rfl] at hp1 hp2
          have HPP := Lib.hid (And.intro hp1 (And.intro hp2 (And.intro hlow hlen))); clear hp1 hp2 hlow hlen hge hsk
          have HRI : Hid ((r0 : Int) = ((r0 / 64 ^ (4 - 1 - (4 - 1)) : Nat) : Int)) := Lib.hid (by simp)
          generalize hr0I : (r0 : Int) = rI at *
          have HR0 := Lib.hid hr0I; clear hr0I
          go_wp2_with (first
            | (at_make; refine wpList_make_bytes rfl _ _ rfl w.heap.size .i64 .i64 _ _ 4 rfl rfl rfl rfl (by omega) HBF.out.size ?_; intro w3 hO3 hg3 hsz3))
          have hb3 : Below wf.heap.size wf w3 := (Below.refl _ _).grown hg3 (Nat.le_refl _) (fun j hj => by cases hj)
          go_loopw [0, 7] (fun rv iv wr => ∃ (i q : Nat) (L : List UInt8), i < 4 ∧ iv = .int .i64 i ∧ rv = .int .i64 q ∧ Hid (q = r0 / 64 ^ (4 - 1 - i)) ∧ L.length = 4 ∧ OwnB wr w.heap.size (.slice (some ⟨wf.heap.size, 0, none⟩) 4 4) L ∧ Hid (∀ j, i < j → j < 4 → byteAt L j = at_ (put r0) j) ∧ Below wf.heap.size wf wr) (fun _ iv _ => (intOf iv).toNat)
          case atStart => exact ⟨4 - 1, r0, List.replicate 4 0, by omega, by go_num, by rw [HR0.out], Lib.hid (by simp), by simp, hO3, Lib.hid (fun j h1 h2 => by omega), hb3⟩
          case round =>
            obtain ⟨i, q, L, hi, rfl, rfl, hq, hL, hO, hj, hb⟩ := hrel
            have HO := Lib.hid hO; clear hO
            by_cases hi0 : 0 < i
            · (try (exfalso; omega))
              all_goals
                obtain ⟨hcb, hfb⟩ := own_byte_at HO.out hL i hi
                have ha := byte_or (r := q)
                have ho := or_128 (y := q % 64) (Nat.mod_lt _ (by omega))
                have hy : q % 64 < 64 := Nat.mod_lt _ (by omega)
                have hjn : ∀ j, i - 1 < j → j < 4 → byteAt (L.set i (UInt8.ofNat (128 + q % 64))) j = at_ (put r0) j := fun j h1 h2 => by
                  rw [byteAt_set _ _ _ _ (by omega)]
                  by_cases h : j = i
                  · subst h; rw [if_pos rfl, UInt8.toNat_ofNat', Nat.mod_eq_of_lt (by omega), HPP.out.2.2.1 j (by omega) h2, hq.out]
                  · rw [if_neg h]; exact hj.out j (by omega) h2
                have hqn : q / 64 = r0 / 64 ^ (4 - 1 - (i - 1)) := by rw [hq.out, Nat.div_div_eq_div_mul, ← Nat.pow_succ]; congr 2; omega
                have HJN := Lib.hid (And.intro hjn hqn); clear hjn hqn
                have hbv : bv (UInt8.ofNat (128 + q % 64)) = .int .u8 (128 + ((q % 64 : Nat) : Int)) := by unfold bv; rw [UInt8.toNat_ofNat', Nat.mod_eq_of_lt (by omega)]; congr 1
                have hO2 := own_put_byte HO.out hL i (UInt8.ofNat (128 + q % 64))
                rw [hbv] at hO2
                have HO2 := Lib.hid hO2; clear hO2 hbv
                generalize UInt8.ofNat (128 + q % 64) = ub at *
                generalize q % 64 = y at *
                have hyI : ((128 + y : Nat) : Int) = 128 + (y : Int) := by omega
                rw [hyI] at ho
                clear hyI
                go_wp2
                go_roundw
                case rel => exact ⟨i - 1, q / 64, _, by omega, by go_num, by go_num, Lib.hid HJN.out.2, by rw [List.length_set]; exact hL, HO2.out, Lib.hid HJN.out.1, hb.setCell (p := ⟨wf.heap.size, i, none⟩) (Nat.le_refl _) _⟩
                case measure => simp [intOf]; omega
            · obtain rfl : i = 0 := by omega
              obtain ⟨hcb, hfb⟩ := own_byte_at HO.out hL 0 (by omega)
              have hq0 := hq.out
              rw [Nat.sub_zero] at hq0
              have hhd := HPP.out.1
              have hhl := HPP.out.2.1
              rw [← hq0] at hhd hhl
              have hor := or_i64 240 q (by omega) (by rw [hq0]; exact Nat.lt_of_le_of_lt (Nat.div_le_self _ _) (by have := HR.out.1; omega))
              have hchw := (hb.cell (p := ⟨w2.heap.size, 13, none⟩) HLT.out).trans hch
              obtain ⟨z, hz⟩ : ∃ z, z = 240 ||| q := ⟨_, rfl⟩
              rw [← hz] at hhd hhl hor
              rw [show ((240 : Nat) : Int) = 240 from rfl] at hor
              have hbv : bv (UInt8.ofNat z) = .int .u8 (z : Int) := by unfold bv; rw [UInt8.toNat_ofNat', Nat.mod_eq_of_lt (by omega)]
              have hfin : L.set 0 (UInt8.ofNat z) = put r0 := by
                refine List.ext_getElem (by rw [List.length_set, hL, HPP.out.2.2.2]) fun j h1 h2 => ?_
                have hj1 : j < 4 := by rw [HPP.out.2.2.2] at h2; exact h2
                have e : byteAt (L.set 0 (UInt8.ofNat z)) j = byteAt (put r0) j := by
                  rw [byteAt_set _ _ _ _ (by omega)]
                  by_cases h : j = 0
                  · subst h; rw [if_pos rfl, UInt8.toNat_ofNat', Nat.mod_eq_of_lt (by omega)]; exact hhd.symm
                  · rw [if_neg h]; exact hj.out j (by omega) hj1
                rw [byteAt_get _ _ h1, byteAt_get _ _ h2] at e
                exact UInt8.toNat_inj.1 e
              have hO2 := own_put_byte HO.out hL 0 (UInt8.ofNat z)
              rw [hbv, hfin] at hO2
              have HO2 := Lib.hid hO2; clear hO2 hbv hfin hhd hz hq0 hq
              have hzl : (z : Int) < 256 := by omega
              clear hhl
              go_wp2_with (first
                | (refine wpList_own_string rfl _ _ 5 _ rfl _ rfl w.heap.size (put r0) HO2.out Try.underlying32 Try.underlying5 Try.underlying9 ?_))
              go_ret2
              exact ⟨by rw [HSS.out]; rfl, bthen HBF.out (hb.setCell (p := ⟨wf.heap.size, 0, none⟩) (Nat.le_refl _) _) (Nat.le_refl _)⟩
end Go.Proofs.Ytkkpcdpoldjmkaa.Utf
