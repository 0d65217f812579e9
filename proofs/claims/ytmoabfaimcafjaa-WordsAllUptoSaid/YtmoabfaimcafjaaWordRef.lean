/-
  THE WALK of the document's own Build.
-/
import Derived.Test.YtmoabfaimcafjaaWordProg
import Derived.Test.YtmoabfaimcafjaaCmp
import Derived.Test.YtmoabfaimcafjaaPush
namespace Go.Proofs.Ytmoabfaimcafjaa.Words
open Go.RowKit ValMath Vals Sl MapV

set_option maxRecDepth 20000 in
set_option maxHeartbeats 8000000 in
theorem buildR_any (A : Option Addr) (n c : Nat) (vs : List Val) (w : World) (hv : VSl w A n vs) (hn : n * 40 ≤ 140737488355280) (hf : ∀ v ∈ vs, v.s.size ≤ maxLen) :
    Calls Try.prog 25 #[.slice A n c] w fun e w' => ∃ u1 u2, e = .returned (.tuple #[u1, u2]) ∧ OwnV w' w.heap.size u1 (build vs).1 ∧ OwnI w' w.heap.size u2 (iat (build vs).2) ∧ Below w.heap.size w w' := by
  have hlen := hv.1
  have HF := Lib.hid (And.intro hf hlen); clear hf hlen
  go_enter Try.func25, Try.ntmps25
  go_wp2
  go_loopw [4, 5, 6] (fun pv qv iv wr => ∃ k : Nat, k ≤ n ∧ iv = .int .i64 k ∧ OwnV wr w.heap.size pv (build (vs.take k)).1 ∧ OwnI wr w.heap.size qv (iat (build (vs.take k)).2) ∧ Below w.heap.size w wr) (fun _ _ iv _ => n - (intOf iv).toNat)
  case atStart => exact ⟨0, Nat.zero_le _, rfl, OwnV.nil _ _, OwnI.nil _ _, Below.refl _ _⟩
  case round =>
    obtain ⟨k, hk, rfl, hV, hI, hb⟩ := hrel
    have hw1 := build_ws_length (vs.take k)
    have hw2 := build_at_length (vs.take k)
    have hlk : (vs.take k).length ≤ k := List.length_take_le _ _
    by_cases hkn : k < n
    · obtain ⟨b1, o1, v, hv1, rfl, hb1, c0, c1, c2, c3⟩ := hv.at_ hkn
      have hts : build (vs.take (k + 1)) = addW (build (vs.take k)) v := by rw [take_more hv1, build_snoc]
      have hvs := HF.out.1 v (List.mem_of_getElem? hv1)
      have hk1 := add_known (s := build (vs.take k)) (v := v)
      have hk2 := add_new (s := build (vs.take k)) (v := v)
      rw [← hts] at hk1 hk2
      have hcl := build_ws_clean (vs.take k)
      have hms : ∀ u ∈ (build (vs.take k)).1, u.s.size ≤ maxLen := fun u hu => by
        obtain ⟨x, hx, e⟩ := (build_ws_mem (vs.take k) u).1 hu
        rw [← e]
        exact Nat.le_trans (clean_size x) (HF.out.1 x (List.mem_of_mem_take hx))
      obtain ⟨A4, c4, rfl, _, _⟩ := hV.form' (n := (build (vs.take k)).1.length) rfl
      have hp := clean_any v
      generalize build (vs.take k) = S at *
      obtain ⟨W, P⟩ := S
      simp only [] at hV hI hw1 hw2 hk1 hk2 hcl hms
      have hcm := fun x => cmp_any x v
      have hcz := fun x => cmp_zero x v
      generalize clean v = u at *
      have hflV : W.length < few := by unfold few; omega
      have hflI : (iat P).length < few := by rw [iat_length]; unfold few; omega
      have HV := Lib.hid hV; clear hV
      have HI := Lib.hid hI; clear hI
      have HFL := Lib.hid (And.intro hflV hflI); clear hflV hflI
      have HK := Lib.hid (And.intro hk1 hk2); clear hk1 hk2 hts hv1
      have HC := Lib.hid (And.intro hcl (And.intro hms (And.intro hvs (And.intro hcm hcz)))); clear hcl hms hvs hcm hcz
      have HVS := Lib.hid hv; clear hv
      obtain ⟨kv, iv, bv, sv⟩ := v
      have hv4 : At4 w b1 (o1 + k * 4) ⟨kv, iv, bv, sv⟩ := ⟨c0, c1, c2, c3⟩
      have HV4 := Lib.hid hv4; clear hv4 c0 c1 c2 c3
      obtain ⟨ku, iu, bu, su⟩ := u
      have HP := Lib.hid hp; clear hp
      have hpn := place_le W ⟨ku, iu, bu, su⟩
      obtain ⟨pk, hpk⟩ : ∃ pk, pk = place W ⟨ku, iu, bu, su⟩ := ⟨_, rfl⟩
      rw [← hpk] at hpn
      have HPK := Lib.hid hpk; clear hpk
      go_wp2
      obtain ⟨wo, hwo⟩ : ∃ wo : World, wo = wr := ⟨_, rfl⟩
      go_loopw [7] (fun jv wi => ∃ q : Nat, q ≤ pk ∧ jv = .int .i64 q ∧ OwnV wi w.heap.size (.slice A4 W.length c4) W ∧ OwnI wi w.heap.size u5 (iat P) ∧ Below w.heap.size w wi) (fun jv _ => W.length - (intOf jv).toNat)
      case atStart => exact ⟨0, Nat.zero_le _, rfl, HV.out, HI.out, hb⟩
      case round =>
        clear HV HI hb hwo
        obtain ⟨q, hq, rfl, hV, hI, hb⟩ := hrel
        have HI := Lib.hid hI; clear hI
        have hszr := hb.size
        by_cases hql : q < W.length
        · have hd1 : decide ((q : Int) < (W.length : Int)) = true := decide_eq_true (by omega)
          obtain ⟨b2, o2, x, hx1, rfl, hb2, d0, d1, d2, d3⟩ := (hV.sl rfl).at_ hql
          have hxm : x ∈ W := List.mem_of_getElem? hx1
          have hxc := HC.out.1 x hxm
          have hcm := fun w => HC.out.2.2.2.1 x w (HC.out.2.1 x hxm) HC.out.2.2.1
          have hcz := HC.out.2.2.2.2 x
          rw [hxc] at hcz
          have hx4 : At4 wr b2 (o2 + q * 4) x := ⟨d0, d1, d2, d3⟩
          have hv4 : At4 wr b1 (o1 + k * 4) ⟨kv, iv, bv, sv⟩ := At4.below HV4.out hb hb1
          have hb1' : b1 < wr.heap.size := by omega
          have HX4 := Lib.hid (And.intro hx4 hv4); clear hx4 hv4
          have HV := Lib.hid hV; clear hV
          have hg1 : (0 : Int) ≤ (q : Int) := by omega
          have hg2 : (q : Int) < (W.length : Int) := by omega
          have hg3 : (0 : Int) ≤ (k : Int) := by omega
          have hg4 : (k : Int) < (n : Int) := by omega
          by_cases hqp : q < pk
          · have hne : x ≠ ⟨ku, iu, bu, su⟩ := by
              obtain ⟨y, hy, hy2⟩ := place_first (ws := W) (v := ⟨ku, iu, bu, su⟩) (i := q) (by rw [← HPK.out]; exact hqp)
              rw [hx1] at hy; injection hy with hy; subst hy; exact hy2
            have hC : cmp x ⟨kv, iv, bv, sv⟩ ≠ 0 := fun e => hne (hcz.1 e)
            generalize cmp x ⟨kv, iv, bv, sv⟩ = r at hC hcm
            have hC1 : (r == 0) = false := by simpa using hC
            clear hne hcz hC hx1 hxm hxc
            obtain ⟨kx, ix, bx, sx⟩ := x
            simp only [] at d0 d1 d2 d3 hcm
            have HK2 := Lib.hid hcm; clear hcm
            obtain ⟨e0, e1, e2, e3⟩ := HX4.out.2
            simp only [] at e0 e1 e2 e3
            go_wp2
            go_region_held3 (fun w' => (w'.cell? ⟨b2, o2 + q * 4, none⟩ = some (.int .i64 kx) ∧ w'.cell? ⟨b2, o2 + q * 4 + 1, none⟩ = some (.int .i64 ix) ∧ w'.cell? ⟨b2, o2 + q * 4 + 2, none⟩ = some (.bool bx) ∧ w'.cell? ⟨b2, o2 + q * 4 + 3, none⟩ = some (.string sx)) ∧
                (w'.cell? ⟨b1, o1 + k * 4, none⟩ = some (.int .i64 kv) ∧ w'.cell? ⟨b1, o1 + k * 4 + 1, none⟩ = some (.int .i64 iv) ∧ w'.cell? ⟨b1, o1 + k * 4 + 2, none⟩ = some (.bool bv) ∧ w'.cell? ⟨b1, o1 + k * 4 + 3, none⟩ = some (.string sv)))
              (first | go_keep | exact ⟨HX4.out.1.drew.below hbK hb2, HX4.out.2.drew.below hbK hb1'⟩)
              ((first | (go_at_call 38; with_reducible refine (HK2.out _).mono ?_; rintro e w1 ⟨rfl, hbK⟩)))
            have HR := Lib.hid (And.intro (HV.out.drew.below hbK) (And.intro (HI.out.drew.below hbK) (bthen hb.drew hbK (Nat.le_refl _))))
            go_wp2
            go_roundw
            case rel => exact ⟨q + 1, by omega, by go_num, HR.out.1, HR.out.2.1, HR.out.2.2⟩
            case measure => simp [intOf]; omega
          · obtain rfl : q = pk := by omega
            have hxu : x = ⟨ku, iu, bu, su⟩ := by
              have h1 : place W ⟨ku, iu, bu, su⟩ < W.length := by rw [← HPK.out]; exact hql
              have h2 := place_at h1
              have h3 : W[place W ⟨ku, iu, bu, su⟩]? = some x := by rw [← HPK.out]; exact hx1
              rw [List.getElem?_eq_getElem h1, h2] at h3
              injection h3 with h3; exact h3.symm
            have hC : cmp x ⟨kv, iv, bv, sv⟩ = 0 := hcz.2 hxu
            rw [hC] at hcm
            have hE := HK.out.1 (by rw [← hxu]; exact hxm)
            rw [← HPK.out] at hE
            have HE := Lib.hid hE; clear hE
            clear hcz hC hx1 hxm hxc hxu
            obtain ⟨kx, ix, bx, sx⟩ := x
            simp only [] at d0 d1 d2 d3 hcm
            have HK2 := Lib.hid hcm; clear hcm
            obtain ⟨e0, e1, e2, e3⟩ := HX4.out.2
            simp only [] at e0 e1 e2 e3
            go_wp2
            go_region_held3 (fun w' => (w'.cell? ⟨b2, o2 + q * 4, none⟩ = some (.int .i64 kx) ∧ w'.cell? ⟨b2, o2 + q * 4 + 1, none⟩ = some (.int .i64 ix) ∧ w'.cell? ⟨b2, o2 + q * 4 + 2, none⟩ = some (.bool bx) ∧ w'.cell? ⟨b2, o2 + q * 4 + 3, none⟩ = some (.string sx)) ∧
                (w'.cell? ⟨b1, o1 + k * 4, none⟩ = some (.int .i64 kv) ∧ w'.cell? ⟨b1, o1 + k * 4 + 1, none⟩ = some (.int .i64 iv) ∧ w'.cell? ⟨b1, o1 + k * 4 + 2, none⟩ = some (.bool bv) ∧ w'.cell? ⟨b1, o1 + k * 4 + 3, none⟩ = some (.string sv)))
              (first | go_keep | exact ⟨HX4.out.1.drew.below hbK hb2, HX4.out.2.drew.below hbK hb1'⟩)
              ((first | (go_at_call 38; with_reducible refine (HK2.out _).mono ?_; rintro e w1 ⟨rfl, hbK⟩)))
            have HV1 := Lib.hid (HV.out.drew.below hbK); clear HV
            have HI1 := Lib.hid (HI.out.drew.below hbK); clear HI
            have HB1 := Lib.hid (bthen hb.drew hbK (Nat.le_refl _)); clear hbK
            clear d0 d1 d2 d3 e0 e1 e2 e3 HX4 hb1' hb2 hb
            have hne : ((q : Int) == (W.length : Int)) = false := by simp; omega
            have hsz1 := HB1.out.size
            go_wp2_with (first
              |
              (at_builtin; (refine wpList_push_int (t := 3) (fr := (0, 0)) rfl (.tmp 44) (.tmp 46) rfl w.heap.size u5 (iat P) (q : Int) w1.heap.size 1 rfl rfl (heap_alloc_new w1 (.cells #[.int .i64 (q : Int)] 3)) (HI1.out.alloc (.cells #[.int .i64 (q : Int)] 3)) HFL.out.2 (Below.size (HB1.out.alloc HB1.out.size (.cells #[.int .i64 (q : Int)] 3))) ?_; intro u2 wB hI2 hgB hatB); (have hV2 := (HV1.out.alloc (.cells #[.int .i64 (q : Int)] 3)).keepI (HI1.out.alloc (.cells #[.int .i64 (q : Int)] 3)) hgB); (have hbB := (HB1.out.alloc HB1.out.size (.cells #[.int .i64 (q : Int)] 3)).grown hgB (Below.size (HB1.out.alloc HB1.out.size (.cells #[.int .i64 (q : Int)] 3))) (own_base HI1.out)); (have HR := Lib.hid (And.intro hI2 (And.intro hV2 hbB))); (clear hI2 hV2 hbB hgB hatB))
              )
            go_roundw
            case rel => exact ⟨k + 1, by omega, by go_num, by rw [HE.out]; exact HR.out.2.1, by rw [HE.out, iat_snoc]; exact HR.out.1, HR.out.2.2⟩
            case measure => simp [intOf]; omega
        · obtain rfl : q = W.length := by omega
          obtain rfl : pk = W.length := by omega
          have hd1 : decide ((W.length : Int) < (W.length : Int)) = false := decide_eq_false (by omega)
          have hmem : (⟨ku, iu, bu, su⟩ : Val) ∉ W := fun h => by
            have h1 := place_lt.2 h
            rw [← HPK.out] at h1; omega
          have HE := Lib.hid (HK.out.2 hmem); clear hmem
          have hv4 : At4 wr b1 (o1 + k * 4) ⟨kv, iv, bv, sv⟩ := At4.below HV4.out hb hb1
          have HX4 := Lib.hid hv4; clear hv4
          have HV := Lib.hid hV; clear hV
          go_wp2
          go_quiet (fail)
          have HV1 := Lib.hid (HV.out.drewN nq); clear HV
          have HI1 := Lib.hid (HI.out.drewN nq); clear HI
          have HB1 := Lib.hid (below_drewN hb nq); clear hb
          obtain ⟨e0, e1, e2, e3⟩ := HX4.out.drewN nq
          simp only [] at e0 e1 e2 e3
          clear HX4
          generalize wr.drewN nq = w1 at *
          have hsz1 := HB1.out.size
          go_wp2_with (first
            | (go_at_call 35; (with_reducible refine (HP.out _).mono ?_); rintro e w2 ⟨rfl, hb2⟩; have HV2 := Lib.hid (HV1.out.below hb2); have HI2 := Lib.hid (HI1.out.below hb2); have HB2 := Lib.hid (bthen HB1.out hb2 (Nat.le_refl _)); clear hb2)
            | (at_builtin; (refine wpList_push_val rfl (.tmp 36) (.tmp 42) rfl w.heap.size (.slice A4 W.length c4) W ⟨ku, iu, bu, su⟩ w2.heap.size 1 rfl rfl (t := 38) (fr := (0, 0)) (heap_alloc_new w2 (.cells #[.int .i64 ku, .int .i64 iu, .bool bu, .string su] 38)) (HV2.out.alloc (.cells #[.int .i64 ku, .int .i64 iu, .bool bu, .string su] 38)) HFL.out.1 (Below.size (HB2.out.alloc HB2.out.size (.cells #[.int .i64 ku, .int .i64 iu, .bool bu, .string su] 38))) ?_; intro u1 wV hV2 hgV hatV); have HI3 := Lib.hid ((HI2.out.alloc (.cells #[.int .i64 ku, .int .i64 iu, .bool bu, .string su] 38)).keepV (HV2.out.alloc (.cells #[.int .i64 ku, .int .i64 iu, .bool bu, .string su] 38)) hgV); have HB3 := Lib.hid ((HB2.out.alloc HB2.out.size (.cells #[.int .i64 ku, .int .i64 iu, .bool bu, .string su] 38)).grown hgV (Below.size (HB2.out.alloc HB2.out.size (.cells #[.int .i64 ku, .int .i64 iu, .bool bu, .string su] 38))) (own_base HV2.out)); have HV3 := Lib.hid hV2; have hszV := HB3.out.size; clear hV2 hgV hatV)
            |
            (at_builtin; (refine wpList_push_int (t := 3) (fr := (0, 0)) rfl (.tmp 44) (.tmp 46) rfl w.heap.size u5 (iat P) (W.length : Int) wV.heap.size 1 rfl rfl (heap_alloc_new wV (.cells #[.int .i64 (W.length : Int)] 3)) (HI3.out.alloc (.cells #[.int .i64 (W.length : Int)] 3)) HFL.out.2 (Below.size (HB3.out.alloc HB3.out.size (.cells #[.int .i64 (W.length : Int)] 3))) ?_; intro u2 wB hI2 hgB hatB); (have hV2 := (HV3.out.alloc (.cells #[.int .i64 (W.length : Int)] 3)).keepI (HI3.out.alloc (.cells #[.int .i64 (W.length : Int)] 3)) hgB); (have hbB := (HB3.out.alloc HB3.out.size (.cells #[.int .i64 (W.length : Int)] 3)).grown hgB (Below.size (HB3.out.alloc HB3.out.size (.cells #[.int .i64 (W.length : Int)] 3))) (own_base HI3.out)); (have HR := Lib.hid (And.intro hI2 (And.intro hV2 hbB))); (clear hI2 hV2 hbB hgB hatB))
            )
          go_roundw
          case rel => exact ⟨k + 1, by omega, by go_num, by rw [HE.out]; exact HR.out.2.1, by rw [HE.out, iat_snoc]; exact HR.out.1, HR.out.2.2⟩
          case measure => simp [intOf]; omega
    · obtain rfl : n = k := by omega
      have htk : vs.take n = vs := List.take_of_length_le (by rw [HF.out.2]; exact Nat.le_refl _)
      rw [htk] at hV hI
      have HV := Lib.hid hV; clear hV
      have HI := Lib.hid hI; clear hI
      go_wp2
      go_ret2
      exact ⟨_, _, rfl, HV.out, HI.out, hb⟩
end Go.Proofs.Ytmoabfaimcafjaa.Words
