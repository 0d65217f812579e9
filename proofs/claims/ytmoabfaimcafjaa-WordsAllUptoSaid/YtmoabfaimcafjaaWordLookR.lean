/-
  THE WALK of the document's own Look.
-/
import Derived.Test.YtmoabfaimcafjaaWordLook
import Derived.Test.YtmoabfaimcafjaaWordRef
namespace Go.Proofs.Ytmoabfaimcafjaa.Words
open Go.RowKit ValMath Vals Sl MapV

set_option maxRecDepth 20000 in
set_option maxHeartbeats 8000000 in
theorem lookR_any (A C : Option Addr) (n c m d : Nat) (ws : List Val) (ks : List Int) (w : World) (hv : VSl w A n ws) (hx : ISl w C m ks) (hn : n * 40 ≤ 140737488355280) (hm : m * 40 ≤ 140737488355280) (hf : ∀ v ∈ ws, v.s.size ≤ maxLen) :
    Calls Try.prog 27 #[.slice A n c, .slice C m d] w fun e w' => ∃ u, e = .returned (.tuple #[u, .int .i64 (lookCode ws ks)]) ∧ OwnV w' w.heap.size u (lookVals ws ks) ∧ Below w.heap.size w w' := by
  have hwl := hv.1
  have hkl := hx.1
  have HF := Lib.hid (And.intro hf (And.intro hwl hkl)); clear hf hwl hkl
  go_enter Try.func27, Try.ntmps27
  go_wp2
  go_loopw [6] (fun iv wr => ∃ k : Nat, k ≤ n ∧ iv = .int .i64 k ∧ ((ws.take k).map clean).Nodup ∧ Below w.heap.size w wr) (fun iv _ => n - (intOf iv).toNat)
  case atStart => exact ⟨0, Nat.zero_le _, rfl, by simp, Below.refl _ _⟩
  case round =>
    obtain ⟨k, hk, rfl, hN, hb⟩ := hrel
    by_cases hkn : k < n
    · obtain ⟨b1, o1, v, hv1, rfl, hb1, c0, c1, c2, c3⟩ := hv.at_ hkn
      have hts : (ws.take (k + 1)).map clean = (ws.take k).map clean ++ [clean v] := by rw [take_more hv1, List.map_append]; rfl
      have hvs := HF.out.1 v (List.mem_of_getElem? hv1)
      have hdup := fun h => look_dup (ks := ks) (take_nodup hv1 h)
      have HTS := Lib.hid (And.intro hts (And.intro hvs hdup)); clear hts hv1 hdup hvs
      have HN := Lib.hid hN; clear hN
      have hcm := fun x => cmp_any x v
      have hcz := fun x => cmp_zero x v
      have HC := Lib.hid (And.intro hcm hcz); clear hcm hcz
      have HVS := Lib.hid hv; clear hv
      obtain ⟨u, hu⟩ : ∃ u, u = clean v := ⟨_, rfl⟩
      rw [← hu] at HTS
      have HU := Lib.hid hu; clear hu
      obtain ⟨kv, iv, bv, sv⟩ := v
      have hv4 : At4 w b1 (o1 + k * 4) ⟨kv, iv, bv, sv⟩ := ⟨c0, c1, c2, c3⟩
      have HV4 := Lib.hid hv4; clear hv4 c0 c1 c2 c3
      go_wp2
      obtain ⟨wo, hwo⟩ : ∃ wo : World, wo = wr := ⟨_, rfl⟩
      go_loopw [7] (fun jv wi => ∃ q : Nat, q ≤ k ∧ jv = .int .i64 q ∧ u ∉ (ws.take q).map clean ∧ Below w.heap.size w wi) (fun jv _ => k - (intOf jv).toNat)
      case atStart => exact ⟨0, Nat.zero_le _, rfl, by simp, hb⟩
      case round =>
        clear hb hwo
        obtain ⟨q, hq, rfl, hM, hb⟩ := hrel
        have HM := Lib.hid hM; clear hM
        have hszr := hb.size
        by_cases hqk : q < k
        · obtain ⟨b2, o2, x, hx1, hA, _, d0, d1, d2, d3⟩ := HVS.out.at_ (k := q) (by omega)
          injection hA with hA; injection hA with h1 h2; subst h1; subst h2
          have hxm : x ∈ ws := List.mem_of_getElem? hx1
          have hcm := fun w => HC.out.1 x w (HF.out.1 x hxm) HTS.out.2.1
          have hcz := HC.out.2 x
          rw [← HU.out] at hcz
          have htq : (ws.take (q + 1)).map clean = (ws.take q).map clean ++ [clean x] := by rw [take_more hx1, List.map_append]; rfl
          have hxk : clean x ∈ (ws.take k).map clean := List.mem_map_of_mem (by rw [List.mem_iff_getElem?]; exact ⟨q, by rw [List.getElem?_take_of_lt hqk]; exact hx1⟩)
          have hx4 : At4 wr b1 (o1 + q * 4) x := At4.below ⟨d0, d1, d2, d3⟩ hb hb1
          have hv4 : At4 wr b1 (o1 + k * 4) ⟨kv, iv, bv, sv⟩ := At4.below HV4.out hb hb1
          have hb1' : b1 < wr.heap.size := by omega
          have HX4 := Lib.hid (And.intro hx4 hv4); clear hx4 hv4 d0 d1 d2 d3
          have hg1 : (0 : Int) ≤ (q : Int) := by omega
          have hg2 : (q : Int) < (n : Int) := by omega
          have hg3 : (0 : Int) ≤ (k : Int) := by omega
          have hg4 : (k : Int) < (n : Int) := by omega
          have hg5 : decide ((q : Int) < (k : Int)) = true := decide_eq_true (by omega)
          by_cases he : clean x = u
          · have hC : cmp x ⟨kv, iv, bv, sv⟩ = 0 := hcz.2 he
            rw [hC] at hcm
            have HB := Lib.hid (HTS.out.2.2 (by rw [← he]; exact hxk))
            clear hcz hC hx1 hxm htq hxk he
            obtain ⟨kx, ix, bx, sx⟩ := x
            have HK2 := Lib.hid hcm; clear hcm
            obtain ⟨d0, d1, d2, d3⟩ := HX4.out.1
            obtain ⟨e0, e1, e2, e3⟩ := HX4.out.2
            simp only [] at d0 d1 d2 d3 e0 e1 e2 e3
            go_wp2
            go_region_held3 (fun w' => (w'.cell? ⟨b1, o1 + q * 4, none⟩ = some (.int .i64 kx) ∧ w'.cell? ⟨b1, o1 + q * 4 + 1, none⟩ = some (.int .i64 ix) ∧ w'.cell? ⟨b1, o1 + q * 4 + 2, none⟩ = some (.bool bx) ∧ w'.cell? ⟨b1, o1 + q * 4 + 3, none⟩ = some (.string sx)) ∧
                (w'.cell? ⟨b1, o1 + k * 4, none⟩ = some (.int .i64 kv) ∧ w'.cell? ⟨b1, o1 + k * 4 + 1, none⟩ = some (.int .i64 iv) ∧ w'.cell? ⟨b1, o1 + k * 4 + 2, none⟩ = some (.bool bv) ∧ w'.cell? ⟨b1, o1 + k * 4 + 3, none⟩ = some (.string sv)))
              (first | go_keep | exact ⟨HX4.out.1.drew.below hbK hb1', HX4.out.2.drew.below hbK hb1'⟩)
              ((first | (go_at_call 38; with_reducible refine (HK2.out _).mono ?_; rintro e w1 ⟨rfl, hbK⟩)))
            have hb := bthen hb.drew hbK (Nat.le_refl _)
            clear d0 d1 d2 d3 e0 e1 e2 e3
            go_wp2
            go_ret2
            exact ⟨_, ret_vi HB.out.2.symm, by rw [HB.out.1]; exact OwnV.nil _ _, hb⟩
          · have hC : cmp x ⟨kv, iv, bv, sv⟩ ≠ 0 := fun e => he (hcz.1 e)
            generalize cmp x ⟨kv, iv, bv, sv⟩ = r at hC hcm
            have hC1 : (r == 0) = false := by simpa using hC
            have hM2 : u ∉ (ws.take (q + 1)).map clean := by rw [htq, List.mem_append]; rintro (h | h); exact HM.out h; (simp at h; exact he h.symm)
            have HM2 := Lib.hid hM2; clear hM2
            clear hcz hC hx1 hxm htq hxk he
            obtain ⟨kx, ix, bx, sx⟩ := x
            have HK2 := Lib.hid hcm; clear hcm
            obtain ⟨d0, d1, d2, d3⟩ := HX4.out.1
            obtain ⟨e0, e1, e2, e3⟩ := HX4.out.2
            simp only [] at d0 d1 d2 d3 e0 e1 e2 e3
            go_wp2
            go_region_held3 (fun w' => (w'.cell? ⟨b1, o1 + q * 4, none⟩ = some (.int .i64 kx) ∧ w'.cell? ⟨b1, o1 + q * 4 + 1, none⟩ = some (.int .i64 ix) ∧ w'.cell? ⟨b1, o1 + q * 4 + 2, none⟩ = some (.bool bx) ∧ w'.cell? ⟨b1, o1 + q * 4 + 3, none⟩ = some (.string sx)) ∧
                (w'.cell? ⟨b1, o1 + k * 4, none⟩ = some (.int .i64 kv) ∧ w'.cell? ⟨b1, o1 + k * 4 + 1, none⟩ = some (.int .i64 iv) ∧ w'.cell? ⟨b1, o1 + k * 4 + 2, none⟩ = some (.bool bv) ∧ w'.cell? ⟨b1, o1 + k * 4 + 3, none⟩ = some (.string sv)))
              (first | go_keep | exact ⟨HX4.out.1.drew.below hbK hb1', HX4.out.2.drew.below hbK hb1'⟩)
              ((first | (go_at_call 38; with_reducible refine (HK2.out _).mono ?_; rintro e w1 ⟨rfl, hbK⟩)))
            have hb := bthen hb.drew hbK (Nat.le_refl _)
            clear d0 d1 d2 d3 e0 e1 e2 e3
            go_wp2
            go_roundw
            case rel => exact ⟨q + 1, by omega, by go_num, HM2.out, hb⟩
            case measure => simp [intOf]; omega
        · obtain rfl : q = k := by omega
          have HNN := Lib.hid (nodup_snoc HN.out HM.out)
          rw [← HTS.out.1] at HNN
          have hg5 : decide ((q : Int) < (q : Int)) = false := decide_eq_false (by omega)
          go_wp2
          go_roundw
          case rel => exact ⟨q + 1, by omega, by go_num, HNN.out, hb⟩
          case measure => simp [intOf]; omega
    · obtain rfl : n = k := by omega
      have htk : ws.take n = ws := List.take_of_length_le (by rw [HF.out.2.1]; exact Nat.le_refl _)
      rw [htk] at hN
      have HN := Lib.hid hN; clear hN htk
      go_wp2
      obtain ⟨wo, hwo⟩ : ∃ wo : World, wo = wr := ⟨_, rfl⟩
      go_loopw [8, 9] (fun uv iv wr => ∃ k : Nat, k ≤ m ∧ iv = .int .i64 k ∧ OwnV wr w.heap.size uv ((ks.take k).map (lookAt ws)) ∧ (∀ a ∈ ks.take k, 0 ≤ a ∧ a < (n : Int)) ∧ Below w.heap.size w wr) (fun _ iv _ => m - (intOf iv).toNat)
      case atStart => exact ⟨0, Nat.zero_le _, rfl, OwnV.nil _ _, by simp, hb⟩
      case round =>
        clear hb hwo
        obtain ⟨k, hk, rfl, hO, hA, hb⟩ := hrel
        have hszr := hb.size
        have hml : ((ks.take k).map (lookAt ws)).length = k := by rw [List.length_map, List.length_take, HF.out.2.2]; omega
        obtain ⟨A8, c8, rfl, _, _⟩ := hO.form' (n := k) hml
        by_cases hkm : k < m
        · obtain ⟨b2, o2, a, ha1, rfl, hb2, a0⟩ := (hx.below hb).at_ hkm
          have hts : (ks.take (k + 1)).map (lookAt ws) = (ks.take k).map (lookAt ws) ++ [lookAt ws a] := by rw [take_int ha1, List.map_append]; rfl
          have hta := take_int ha1
          have hmem : a ∈ ks := List.mem_of_getElem? ha1
          have hout := fun h => look_out (ws := ws) hmem h
          rw [HF.out.2.1] at hout
          have HTS := Lib.hid (And.intro hts hta); clear hts hta ha1 hmem
          generalize (ks.take k).map (lookAt ws) = O at *
          have hfl : O.length < few := by rw [hml]; unfold few; omega
          have HFL := Lib.hid (And.intro hfl hml); clear hfl hml
          have HO := Lib.hid hO; clear hO
          have HA := Lib.hid hA; clear hA
          by_cases ha : a < 0
          · have HB := Lib.hid (hout (by omega))
            have hd1 : decide (a < 0) = true := decide_eq_true ha
            clear hout
            go_wp2
            go_ret2
            exact ⟨_, ret_vi HB.out.2.symm, by rw [HB.out.1]; exact OwnV.nil _ _, hb⟩
          · obtain ⟨p, rfl⟩ : ∃ p : Nat, a = p := ⟨a.toNat, by omega⟩
            have hd1 : decide ((p : Int) < 0) = false := decide_eq_false ha
            by_cases hpn : p < n
            · have hd2 : decide ((n : Int) ≤ (p : Int)) = false := decide_eq_false (by omega)
              obtain ⟨b1, o1, v, hv1, rfl, hb1, c0, c1, c2, c3⟩ := (hv.below hb).at_ hpn
              have hlv : lookAt ws (p : Int) = clean v := by unfold lookAt; rw [Int.toNat_natCast, List.getD_eq_getElem?_getD, hv1]; rfl
              have hp := clean_any v
              rw [hlv] at HTS
              generalize clean v = u at *
              clear hv1 hlv hout
              obtain ⟨kv, iv, bv, sv⟩ := v
              obtain ⟨ku, iu, bu, su⟩ := u
              simp only [vagg] at c0 c1 c2 c3 hp
              have HPL := Lib.hid hp; clear hp
              go_wp2_with (first
                | (go_at_call 35; (with_reducible refine (HPL.out _).mono ?_); rintro e w1 ⟨rfl, hb2⟩; have HO1 := Lib.hid (HO.out.below hb2); have HBT1 := Lib.hid (bthen hb hb2 (Nat.le_refl _)); clear hb2)
                | (at_builtin; (refine wpList_push_val rfl (.tmp 51) (.tmp 60) rfl w.heap.size (.slice A8 k c8) O ⟨ku, iu, bu, su⟩ w1.heap.size 1 rfl rfl (t := 38) (fr := (0, 0)) (heap_alloc_new w1 (.cells #[.int .i64 ku, .int .i64 iu, .bool bu, .string su] 38)) (HO1.out.alloc (.cells #[.int .i64 ku, .int .i64 iu, .bool bu, .string su] 38)) HFL.out.1 (Below.size (HBT1.out.alloc HBT1.out.size (.cells #[.int .i64 ku, .int .i64 iu, .bool bu, .string su] 38))) ?_; intro u2 wB hI2 hgB hatB); (have hbB := (HBT1.out.alloc HBT1.out.size (.cells #[.int .i64 ku, .int .i64 iu, .bool bu, .string su] 38)).grown hgB (Below.size (HBT1.out.alloc HBT1.out.size (.cells #[.int .i64 ku, .int .i64 iu, .bool bu, .string su] 38))) (own_base HO1.out)); have HR := Lib.hid (And.intro hI2 hbB); clear hI2 hgB hatB hbB))
              go_roundw
              case rel => exact ⟨k + 1, by omega, by go_num, by rw [HTS.out.1]; exact HR.out.1, by rw [HTS.out.2]; intro a ha; rw [List.mem_append] at ha; rcases ha with ha | ha; exact HA.out a ha; (simp at ha; subst ha; omega), HR.out.2⟩
              case measure => simp [intOf]; omega
            · have HB := Lib.hid (hout (by omega))
              have hd2 : decide ((n : Int) ≤ (p : Int)) = true := decide_eq_true (by omega)
              clear hout
              go_wp2
              go_ret2
              exact ⟨_, ret_vi HB.out.2.symm, by rw [HB.out.1]; exact OwnV.nil _ _, hb⟩
        · obtain rfl : m = k := by omega
          have htk : ks.take m = ks := List.take_of_length_le (by rw [HF.out.2.2]; exact Nat.le_refl _)
          rw [htk] at hO hA
          have HB := Lib.hid (look_all HN.out (by rw [HF.out.2.1]; exact hA))
          have HO := Lib.hid hO; clear hO hA hml
          go_wp2
          go_ret2
          exact ⟨_, ret_vi HB.out.2.symm, by rw [HB.out.1]; exact HO.out, hb⟩
end Go.Proofs.Ytmoabfaimcafjaa.Words
