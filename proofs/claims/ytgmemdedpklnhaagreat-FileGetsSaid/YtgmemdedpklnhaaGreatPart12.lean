/-
  Lemmas of this claim, text behind text: VecVec. Each states its own conditions.
-/
import Derived.Test.YtgmemdedpklnhaaGreatPart04
import Derived.Test.YtgmemdedpklnhaaGreatPart09
import Derived.Test.YtgmemdedpklnhaaGreatPart11

/-
  THE WALK of the document's own Vec.
-/




namespace Go.Proofs.YtgmemdedpklnhaaGreat.Vec
open Go.RowKit ValMath Vals Sl VecMath Words

theorem fits_null {k : Int} {v : Val} (h : isNull v = true) : fits k v = true := by
  unfold isNull at h
  have := of_decide_eq_true h
  unfold fits; simp [this]
theorem fits_some {k : Int} {v : Val} (hk : k = 1 ∨ k = 2 ∨ k = 3) (h : isNull v = false) : fits k v = (decide (v.k = k) && (decide (k ≠ 3) || (decide (v.s.size ≤ 64) && UtfMath.valid v.s.data.toList))) := by
  unfold isNull at h
  have h0 := of_decide_eq_false h
  obtain ⟨vk, vi, vb, vs⟩ := v
  have hv0 : UtfMath.valid [] = true := by decide
  by_cases h1 : vk = 1
  · subst h1
    unfold fits
    rcases hk with rfl | rfl | rfl <;> simp [clean, hv0]
  · by_cases h2 : vk = 2
    · subst h2
      unfold fits
      rcases hk with rfl | rfl | rfl <;> simp [clean, hv0]
    · by_cases h3 : vk = 3
      · subst h3
        unfold fits
        rcases hk with rfl | rfl | rfl <;> simp [clean]
      · exfalso
        apply h0
        simp [clean, h1, h2, h3, nul]

theorem ret_sii {s t : ByteArray} {a b c d : Int} (h1 : s = t) (h2 : a = b) (h3 : c = d) : Ending.returned (.tuple #[.string s, .int .i64 a, .int .i64 c]) = .returned (.tuple #[.string t, .int .i64 b, .int .i64 d]) := by rw [h1, h2, h3]
theorem put_bad {k : Int} {vs : List Val} (h : mayErr k vs ≠ 0) : put k vs = [] ∧ encOf k vs = 0 := by unfold put encOf; rw [if_neg h, if_neg h]; exact ⟨rfl, rfl⟩
theorem all_ok {k : Int} {vs : List Val} (h1 : ¬ (k < 1 ∨ 3 < k)) (h2 : ¬ 4096 < vs.length) (h3 : vs.all (fits k) = true) : mayErr k vs = 0 := by unfold mayErr; rw [if_neg h1, if_neg h2, if_pos h3]
theorem best3_first (p r s : List UInt8) : (best3 p r s).1 = if r.length < p.length then (if s.length < r.length then 2 else 1) else (if s.length < p.length then 2 else 0) := by
  unfold best3; split <;> split <;> rfl
theorem best3_at {w : World} {g : Nat} {p r s : List UInt8} (h : Tri w g (str p) (str r) (str s)) : w.cell? ⟨g, (best3 p r s).1, none⟩ = some (.string (str (best3 p r s).2)) := by
  obtain ⟨z0, z1, z2⟩ := h.cells
  rcases best_cases p r s with e | e | e <;> rw [e] <;> assumption
theorem best3_le (p r s : List UInt8) : (best3 p r s).1 ≤ 2 := by
  rcases best_cases p r s with e | e | e <;> rw [e] <;> simp
set_option maxRecDepth 20000 in
set_option maxHeartbeats 8000000 in
theorem refVec_any (k : Int) (A : Option Addr) (n c : Nat) (vs : List Val) (w : World) (hv : VSl w A n vs) (hf : ∀ v ∈ vs, Fine v) :
    Calls Tryz.prog 33 #[.int .i64 k, .slice A n c] w fun e w' => e = .returned (.tuple #[.string (str (put k vs)), .int .i64 (encOf k vs : Nat), .int .i64 (mayErr k vs : Nat)]) ∧ Below w.heap.size w w' := by
  have hl := hv.1
  by_cases hk : k < 1 ∨ 3 < k
  · have hE : mayErr k vs = 900 := by unfold mayErr; rw [if_pos hk]
    have hpb := put_bad (k := k) (vs := vs) (by rw [hE]; decide)
    rw [hpb.1, hpb.2, hE]
    clear hpb hE
    by_cases h1 : k < 1
    · go_enter Tryz.func33, Tryz.ntmps33
      go_wp2
      go_ret3
      exact ⟨rfl, Below.refl _ _⟩
    · have h3 : 3 < k := by omega
      go_enter Tryz.func33, Tryz.ntmps33
      go_wp2
      go_ret3
      exact ⟨rfl, Below.refl _ _⟩
  · have hk1 : ¬ k < 1 := by omega
    have hk3 : ¬ 3 < k := by omega
    have hkk : k = 1 ∨ k = 2 ∨ k = 3 := by omega
    by_cases hn : 4096 < n
    · have hE : mayErr k vs = 901 := by unfold mayErr; rw [if_neg hk, if_pos (by rw [hl]; exact hn)]
      have hpb := put_bad (k := k) (vs := vs) (by rw [hE]; decide)
      rw [hpb.1, hpb.2, hE]
      clear hpb hE
      have hn' : (4096 : Int) < (n : Int) := by omega
      go_enter Tryz.func33, Tryz.ntmps33
      go_wp2
      go_ret3
      exact ⟨rfl, Below.refl _ _⟩
    · have hn' : ¬ (4096 : Int) < (n : Int) := by omega
      have HF := Lib.hid (And.intro hf hl); clear hf hl
      have HKK := Lib.hid (And.intro hk hkk); clear hk hkk
      go_enter Tryz.func33, Tryz.ntmps33
      go_wp2
      go_loopw [7, 8, 9] (fun tv sv iv wr => ∃ q : Nat, q ≤ n ∧ iv = .int .i64 q ∧ OwnI wr w.heap.size tv (iat (nulls (vs.take q))) ∧ OwnV wr w.heap.size sv (somes (vs.take q)) ∧ (vs.take q).all (fits k) = true ∧ Below w.heap.size w wr) (fun _ _ iv _ => n - (intOf iv).toNat)
      case atStart => exact ⟨0, Nat.zero_le _, rfl, OwnI.nil _ _, OwnV.nil _ _, by simp, Below.refl _ _⟩
      case round =>
        obtain ⟨q, hq, rfl, hI, hV, hall, hb⟩ := hrel
        have htl : (vs.take q).length = q := by rw [List.length_take, HF.out.2]; omega
        have hnl : (iat (nulls (vs.take q))).length = q := by rw [iat_length, nulls_length, htl]
        have hml := somes_length (vs.take q)
        rw [htl] at hml
        obtain ⟨A7, c7, rfl, _, _, _⟩ := hI.form (n := q) hnl
        obtain ⟨m, hm⟩ : ∃ m, (somes (vs.take q)).length = m := ⟨_, rfl⟩
        rw [hm] at hml
        obtain ⟨A8, c8, rfl, _, _⟩ := hV.form' (n := m) hm
        by_cases hlt : q < n
        · obtain ⟨b1, o1, v, hv1, rfl, hb1, c0, c1, c2, c3⟩ := hv.at_ hlt
          have hns := nulls_snoc hv1
          have hs1 := somes_null hv1
          have hs2 := somes_more hv1
          have hal := all_snoc hv1 hall
          have hvm := List.mem_of_getElem? hv1
          have hno := fun h => mayErr_no (k := k) HKK.out.1 (by rw [HF.out.2]; exact hn) hvm h
          have hfn := fits_null (k := k) (v := v)
          have hfs := fits_some (v := v) HKK.out.2
          have hp := clean_any v
          have hnu := fun w => Stats.null_any v w
          have hva := fun w => Utf.refValid_any v.s w (Nat.le_trans (HF.out.1 v hvm).s (by unfold maxReach; omega))
          have hni : ValMath.null v = isNull v := rfl
          rw [hni] at hnu
          clear hni
          have hflT : (iat (nulls (vs.take q))).length < few := by rw [hnl]; unfold few; omega
          have hflM : (somes (vs.take q)).length < few := by rw [hm]; unfold few; omega
          generalize iat (nulls (vs.take q)) = T at *
          generalize somes (vs.take q) = M at *
          generalize clean v = u at *
          generalize isNull v = Bn at *
          generalize fits k v = Ft at *
          have hszr := hb.size
          have hv4 : At4 wr b1 (o1 + q * 4) v := At4.below ⟨c0, c1, c2, c3⟩ hb hb1
          have HX4 := Lib.hid hv4
          have hb1' : b1 < wr.heap.size := Nat.lt_of_lt_of_le hb1 hszr
          have HN := Lib.hid (And.intro hns (And.intro hs1 (And.intro hs2 (And.intro hm hal)))); clear hns hs1 hs2 hv1 hnl hm hal
          have HFL := Lib.hid (And.intro hflT hflM); clear hflT hflM
          have HI := Lib.hid hI; clear hI
          have HV := Lib.hid hV; clear hV
          obtain ⟨kv, iv, bv, sv⟩ := v
          obtain ⟨ku, iu, bu, su⟩ := u
          obtain ⟨z0, z1, z2, z3⟩ := hv4
          simp only [] at z0 z1 z2 z3 hva hfs
          clear c0 c1 c2 c3 hvm
          generalize UtfMath.valid sv.data.toList = Vd at *
          have HPL := Lib.hid hp; clear hp
          have HVA := Lib.hid hva; clear hva
          cases Bn
          case true =>
            have hft := hfn (by trivial)
            rw [hft] at HN
            have HNU := Lib.hid hnu; clear hnu hfn hfs hno hft
            go_wp2_with (first
              | (go_at_call 64; (with_reducible refine (HNU.out _).mono ?_); rintro e w1 ⟨rfl, hb1⟩; have HI1 := Lib.hid (HI.out.below hb1); have HV1 := Lib.hid (HV.out.below hb1); have HBT1 := Lib.hid (bthen hb hb1 (Nat.le_refl _)); clear hb1)
              | (at_builtin; (refine wpList_push_int (t := 3) (fr := (0, 0)) rfl (.tmp 35) (.tmp 36) rfl w.heap.size (.slice A7 q c7) T 1 w1.heap.size 1 rfl rfl (heap_alloc_new w1 (.cells #[.int .i64 1] 3)) (HI1.out.alloc (.cells #[.int .i64 1] 3)) HFL.out.1 (Below.size (HBT1.out.alloc HBT1.out.size (.cells #[.int .i64 1] 3))) ?_; intro u2 wB hI2 hgB hatB); have HI3 := Lib.hid hI2; have HV3 := Lib.hid ((HV1.out.alloc (.cells #[.int .i64 1] 3)).keepI (HI1.out.alloc (.cells #[.int .i64 1] 3)) hgB); have HBT3 := Lib.hid ((HBT1.out.alloc HBT1.out.size (.cells #[.int .i64 1] 3)).grown hgB (Below.size (HBT1.out.alloc HBT1.out.size (.cells #[.int .i64 1] 3))) (own_base HI1.out)); have hszB := HBT3.out.size; clear hI2 hgB hatB))
            go_roundw
            case rel => exact ⟨q + 1, by omega, by go_num, by rw [HN.out.1]; exact HI3.out, by rw [HN.out.2.1 (by trivial)]; exact HV3.out, HN.out.2.2.2.2, HBT3.out⟩
            case measure => simp [intOf]; omega
          case false =>
            have hft := hfs (by trivial)
            have HNU := Lib.hid hnu; clear hnu hfn hfs
            by_cases e1 : kv = k
            · have g1 : (kv != k) = false := by simp [e1]
              by_cases e3 : k = 3
              · have g3 : (k == 3) = true := by simp [e3]
                by_cases e4 : sv.size ≤ 64
                · have g4 : decide (64 < sv.size) = false := decide_eq_false (by omega)
                  have g4' : decide ((64 : Int) < (sv.size : Int)) = false := decide_eq_false (by omega)
                  cases Vd
                  case false =>
                    have HNO := Lib.hid (hno (by rw [hft]; simp [e3])); clear hno hft e1 e3 e4
                    go_wp2_with (first
                      | (go_at_call 64; (with_reducible refine (HNU.out _).mono ?_); rintro e w1 ⟨rfl, hb1⟩; obtain ⟨m0, m1, m2, m3⟩ := HX4.out.below hb1 hb1'; (try simp only [] at m0 m1 m2 m3); have HBT1 := Lib.hid (bthen hb hb1 (Nat.le_refl _)); clear hb1)
                      | (go_at_call 65; (with_reducible refine (HVA.out _).mono ?_); rintro e w9 ⟨rfl, rfl⟩))
                    go_ret3
                    have hpb := put_bad (k := k) (vs := vs) (by rw [HNO.out]; decide)
                    exact ⟨ret_sii (by rw [hpb.1]; rfl) (by rw [hpb.2]; rfl) (by rw [HNO.out]; rfl), HBT1.out⟩
                  case true =>
                    rw [hft, show (decide (kv = k) && (decide (k ≠ 3) || (decide (sv.size ≤ 64) && true))) = true by simp [e1, e4]] at HN
                    clear hno hft e1 e3 e4
                    go_wp2_with (first
                      | (go_at_call 64; (with_reducible refine (HNU.out _).mono ?_); rintro e w1 ⟨rfl, hb1⟩; have HI1 := Lib.hid (HI.out.below hb1); have HV1 := Lib.hid (HV.out.below hb1); have HBT1 := Lib.hid (bthen hb hb1 (Nat.le_refl _)); obtain ⟨m0, m1, m2, m3⟩ := HX4.out.below hb1 hb1'; (try simp only [] at m0 m1 m2 m3); have HX1 := Lib.hid (HX4.out.below hb1 hb1'); have hbl1 : b1 < w1.heap.size := Nat.lt_of_lt_of_le hb1' hb1.size; have hnI1 : (Value.slice A7 q c7).ownBlock ≠ some b1 := (fun e2 => by have h9 := own_base HI.out _ e2; omega); clear hb1)
                      | (go_at_call 65; (with_reducible refine (HVA.out _).mono ?_); rintro e w9 ⟨rfl, rfl⟩)
                      | (go_at_call 66; (with_reducible refine (HPL.out _).mono ?_); rintro e w4 ⟨rfl, hb4⟩; have HI4 := Lib.hid (HI3.out.below hb4); have HV4 := Lib.hid (HV3.out.below hb4); have HBT4 := Lib.hid (bthen HBT3.out hb4 (Nat.le_refl _)); clear hb4)
                      | (at_builtin; (refine wpList_push_int (t := 3) (fr := (0, 0)) rfl (.tmp 67) (.tmp 68) rfl w.heap.size (.slice A7 q c7) T 0 w1.heap.size 1 rfl rfl (heap_alloc_new w1 (.cells #[.int .i64 0] 3)) (HI1.out.alloc (.cells #[.int .i64 0] 3)) HFL.out.1 (Below.size (HBT1.out.alloc HBT1.out.size (.cells #[.int .i64 0] 3))) ?_; intro u2 wB hI2 hgB hatB); have HI3 := Lib.hid hI2; have HV3 := Lib.hid ((HV1.out.alloc (.cells #[.int .i64 0] 3)).keepI (HI1.out.alloc (.cells #[.int .i64 0] 3)) hgB); have HX3 := Lib.hid (At4.grown (At4.alloc HX1.out hbl1 (.cells #[.int .i64 0] 3)) hgB (fun e2 => hnI1 e2.symm)); have HBT3 := Lib.hid ((HBT1.out.alloc HBT1.out.size (.cells #[.int .i64 0] 3)).grown hgB (Below.size (HBT1.out.alloc HBT1.out.size (.cells #[.int .i64 0] 3))) (own_base HI1.out)); have hszB := HBT3.out.size; clear m0 m1 m2 m3; obtain ⟨m0, m1, m2, m3⟩ := HX3.out; (try simp only [] at m0 m1 m2 m3); clear hI2 hgB hatB)
                      | (at_builtin; (refine wpList_push_val rfl (.tmp 70) (.tmp 76) rfl w.heap.size (.slice A8 m c8) M ⟨ku, iu, bu, su⟩ w4.heap.size 1 rfl rfl (t := 71) (fr := (0, 0)) (heap_alloc_new w4 (.cells #[.int .i64 ku, .int .i64 iu, .bool bu, .string su] 71)) (HV4.out.alloc (.cells #[.int .i64 ku, .int .i64 iu, .bool bu, .string su] 71)) HFL.out.2 (Below.size (HBT4.out.alloc HBT4.out.size (.cells #[.int .i64 ku, .int .i64 iu, .bool bu, .string su] 71))) ?_; intro u3 wC hV5 hgC hatC); have HV5 := Lib.hid hV5; have HI5 := Lib.hid ((HI4.out.alloc (.cells #[.int .i64 ku, .int .i64 iu, .bool bu, .string su] 71)).keepV (HV4.out.alloc (.cells #[.int .i64 ku, .int .i64 iu, .bool bu, .string su] 71)) hgC); have HBT5 := Lib.hid ((HBT4.out.alloc HBT4.out.size (.cells #[.int .i64 ku, .int .i64 iu, .bool bu, .string su] 71)).grown hgC (Below.size (HBT4.out.alloc HBT4.out.size (.cells #[.int .i64 ku, .int .i64 iu, .bool bu, .string su] 71))) (own_base HV4.out)); clear hV5 hgC hatC))
                    go_roundw
                    case rel => exact ⟨q + 1, by omega, by go_num, by rw [HN.out.1]; exact HI5.out, by rw [HN.out.2.2.1 (by trivial)]; exact HV5.out, HN.out.2.2.2.2, HBT5.out⟩
                    case measure => simp [intOf]; omega
                · have g4 : decide (64 < sv.size) = true := decide_eq_true (by omega)
                  have g4' : decide ((64 : Int) < (sv.size : Int)) = true := decide_eq_true (by omega)
                  have HNO := Lib.hid (hno (by rw [hft]; simp [e3, e4])); clear hno hft e1 e3 e4
                  go_wp2_with (first
                    | (go_at_call 64; (with_reducible refine (HNU.out _).mono ?_); rintro e w1 ⟨rfl, hb1⟩; obtain ⟨m0, m1, m2, m3⟩ := HX4.out.below hb1 hb1'; (try simp only [] at m0 m1 m2 m3); have HBT1 := Lib.hid (bthen hb hb1 (Nat.le_refl _)); clear hb1)
                    | (go_at_call 65; (with_reducible refine (HVA.out _).mono ?_); rintro e w9 ⟨rfl, rfl⟩))
                  go_ret3
                  have hpb := put_bad (k := k) (vs := vs) (by rw [HNO.out]; decide)
                  exact ⟨ret_sii (by rw [hpb.1]; rfl) (by rw [hpb.2]; rfl) (by rw [HNO.out]; rfl), HBT1.out⟩
              · have g3 : (k == 3) = false := by simpa using e3
                rw [hft, show (decide (kv = k) && (decide (k ≠ 3) || (decide (sv.size ≤ 64) && Vd))) = true by simp [e1, e3]] at HN
                clear hno hft e1 e3
                go_wp2_with (first
                  | (go_at_call 64; (with_reducible refine (HNU.out _).mono ?_); rintro e w1 ⟨rfl, hb1⟩; have HI1 := Lib.hid (HI.out.below hb1); have HV1 := Lib.hid (HV.out.below hb1); have HBT1 := Lib.hid (bthen hb hb1 (Nat.le_refl _)); obtain ⟨m0, m1, m2, m3⟩ := HX4.out.below hb1 hb1'; (try simp only [] at m0 m1 m2 m3); have HX1 := Lib.hid (HX4.out.below hb1 hb1'); have hbl1 : b1 < w1.heap.size := Nat.lt_of_lt_of_le hb1' hb1.size; have hnI1 : (Value.slice A7 q c7).ownBlock ≠ some b1 := (fun e2 => by have h9 := own_base HI.out _ e2; omega); clear hb1)
                  | (go_at_call 65; (with_reducible refine (HVA.out _).mono ?_); rintro e w9 ⟨rfl, rfl⟩)
                  | (go_at_call 66; (with_reducible refine (HPL.out _).mono ?_); rintro e w4 ⟨rfl, hb4⟩; have HI4 := Lib.hid (HI3.out.below hb4); have HV4 := Lib.hid (HV3.out.below hb4); have HBT4 := Lib.hid (bthen HBT3.out hb4 (Nat.le_refl _)); clear hb4)
                  | (at_builtin; (refine wpList_push_int (t := 3) (fr := (0, 0)) rfl (.tmp 67) (.tmp 68) rfl w.heap.size (.slice A7 q c7) T 0 w1.heap.size 1 rfl rfl (heap_alloc_new w1 (.cells #[.int .i64 0] 3)) (HI1.out.alloc (.cells #[.int .i64 0] 3)) HFL.out.1 (Below.size (HBT1.out.alloc HBT1.out.size (.cells #[.int .i64 0] 3))) ?_; intro u2 wB hI2 hgB hatB); have HI3 := Lib.hid hI2; have HV3 := Lib.hid ((HV1.out.alloc (.cells #[.int .i64 0] 3)).keepI (HI1.out.alloc (.cells #[.int .i64 0] 3)) hgB); have HX3 := Lib.hid (At4.grown (At4.alloc HX1.out hbl1 (.cells #[.int .i64 0] 3)) hgB (fun e2 => hnI1 e2.symm)); have HBT3 := Lib.hid ((HBT1.out.alloc HBT1.out.size (.cells #[.int .i64 0] 3)).grown hgB (Below.size (HBT1.out.alloc HBT1.out.size (.cells #[.int .i64 0] 3))) (own_base HI1.out)); have hszB := HBT3.out.size; clear m0 m1 m2 m3; obtain ⟨m0, m1, m2, m3⟩ := HX3.out; (try simp only [] at m0 m1 m2 m3); clear hI2 hgB hatB)
                  | (at_builtin; (refine wpList_push_val rfl (.tmp 70) (.tmp 76) rfl w.heap.size (.slice A8 m c8) M ⟨ku, iu, bu, su⟩ w4.heap.size 1 rfl rfl (t := 71) (fr := (0, 0)) (heap_alloc_new w4 (.cells #[.int .i64 ku, .int .i64 iu, .bool bu, .string su] 71)) (HV4.out.alloc (.cells #[.int .i64 ku, .int .i64 iu, .bool bu, .string su] 71)) HFL.out.2 (Below.size (HBT4.out.alloc HBT4.out.size (.cells #[.int .i64 ku, .int .i64 iu, .bool bu, .string su] 71))) ?_; intro u3 wC hV5 hgC hatC); have HV5 := Lib.hid hV5; have HI5 := Lib.hid ((HI4.out.alloc (.cells #[.int .i64 ku, .int .i64 iu, .bool bu, .string su] 71)).keepV (HV4.out.alloc (.cells #[.int .i64 ku, .int .i64 iu, .bool bu, .string su] 71)) hgC); have HBT5 := Lib.hid ((HBT4.out.alloc HBT4.out.size (.cells #[.int .i64 ku, .int .i64 iu, .bool bu, .string su] 71)).grown hgC (Below.size (HBT4.out.alloc HBT4.out.size (.cells #[.int .i64 ku, .int .i64 iu, .bool bu, .string su] 71))) (own_base HV4.out)); clear hV5 hgC hatC))
                go_roundw
                case rel => exact ⟨q + 1, by omega, by go_num, by rw [HN.out.1]; exact HI5.out, by rw [HN.out.2.2.1 (by trivial)]; exact HV5.out, HN.out.2.2.2.2, HBT5.out⟩
                case measure => simp [intOf]; omega
            · have g1 : (kv != k) = true := by simpa using e1
              have HNO := Lib.hid (hno (by rw [hft]; simp [e1])); clear hno hft e1
              go_wp2_with (first
                | (go_at_call 64; (with_reducible refine (HNU.out _).mono ?_); rintro e w1 ⟨rfl, hb1⟩; obtain ⟨m0, m1, m2, m3⟩ := HX4.out.below hb1 hb1'; (try simp only [] at m0 m1 m2 m3); have HBT1 := Lib.hid (bthen hb hb1 (Nat.le_refl _)); clear hb1)
                | (go_at_call 65; (with_reducible refine (HVA.out _).mono ?_); rintro e w9 ⟨rfl, rfl⟩))
              go_ret3
              have hpb := put_bad (k := k) (vs := vs) (by rw [HNO.out]; decide)
              exact ⟨ret_sii (by rw [hpb.1]; rfl) (by rw [hpb.2]; rfl) (by rw [HNO.out]; rfl), HBT1.out⟩
        · obtain rfl : q = n := by omega
          have htk : vs.take q = vs := List.take_of_length_le (by rw [HF.out.2]; exact Nat.le_refl _)
          rw [htk] at hI hV hm hnl hall
          have hok := all_ok HKK.out.1 (by rw [HF.out.2]; exact hn) hall
          have hz := may_zero hok HF.out.1
          have hput : put k vs = CrcMath.seal_ (body k vs) := by unfold put; rw [if_pos hok]
          have hen : encOf k vs = (best k vs).1 := by unfold encOf; rw [if_pos hok]
          have hfs : ∀ u ∈ somes vs, Fine u ∧ u.s.size ≤ 64 := fun u hu => by
            obtain ⟨v, hv2, e⟩ := somes_mem hu
            have h2 := hz.2 v hv2
            rw [← e]; exact ⟨fine_clean h2.1, h2.2⟩
          have hm4 : m ≤ 4096 := by omega
          have hW := ways_any k A8 m c8 (somes vs) wr (hV.sl hm) hm4 hfs
          have hbl := body_len k vs hz.1 (fun v h => (hz.2 v h).2)
          have hbestl := best_len k vs hz.1 (fun v h => (hz.2 v h).2)
          have hpk : BitMath.packS (iat (nulls vs)) 1 = packed 1 (nulls vs) := pack_nat (w := 1) (nulls_lt vs) (by omega)
          have hsm : ∀ x ∈ iat (nulls vs), x < 9223372036854775808 := fun x hx => by
            simp only [iat, nulls, List.mem_map] at hx
            obtain ⟨y, ⟨v, _, rfl⟩, rfl⟩ := hx
            have := flag_lt (isNull v); omega
          have hbest : best k vs = best3 (encPlain k (somes vs)) (encRuns (somes vs)) (encWords (somes vs)) := rfl
          have hbody : body k vs = [UInt8.ofNat (best k vs).1] ++ cnt q ++ packed 1 (nulls vs) ++ (best k vs).2 := by unfold body; rw [HF.out.2]
          have hpl := packed_length 1 (nulls vs)
          rw [nulls_length, HF.out.2] at hpl
          have hcl := cnt_size q
          generalize encPlain k (somes vs) = P at *
          generalize encRuns (somes vs) = R at *
          generalize encWords (somes vs) = S at *
          have HW := Lib.hid hW; clear hW
          have HI := Lib.hid hI; clear hI hV
          have HE := Lib.hid (And.intro hput (And.intro hen (And.intro hok (And.intro hbest hbody)))); clear hput hen hok hbest hbody
          have hszr := hb.size
          go_wp2_with (go_at_call 67; (with_reducible refine HW.out.mono ?_); rintro e w1 ⟨rfl, hb1⟩; have HI1 := Lib.hid ((HI.out.below hb1).alloc (.cells #[.string (str P), .string (str R), .string (str S)] 112)); have hbt1 := bthen hb hb1 (Nat.le_refl _); have HBT1 := Lib.hid (hbt1.alloc hbt1.size (.cells #[.string (str P), .string (str R), .string (str S)] 112)); have HTR := Lib.hid (Tri.new w1 (str P) (str R) (str S)); clear hb1 hbt1)
          have hb3 := best3_first P R S
          go_loopw [11, 12] (fun bv iv wr => ∃ i b : Int, iv = .int .i64 i ∧ bv = .int .i64 b ∧ ((i = 1 ∧ b = 0) ∨ (i = 2 ∧ b = (if R.length < P.length then 1 else 0)) ∨ (i = 3 ∧ b = ((best3 P R S).1 : Nat))) ∧ Tri wr w1.heap.size (str P) (str R) (str S) ∧ OwnI wr w.heap.size (.slice A7 q c7) (iat (nulls vs)) ∧ Below w.heap.size w wr) (fun _ iv _ => 3 - (intOf iv).toNat)
          case atStart => exact ⟨1, 0, rfl, rfl, .inl ⟨rfl, rfl⟩, HTR.out, HI1.out, HBT1.out⟩
          case round =>
            clear HTR HI1 HBT1
            obtain ⟨i, b, rfl, rfl, hst, hT, hI, hb⟩ := hrel
            obtain ⟨z0, z1, z2⟩ := hT.cells
            have HTX := Lib.hid hT; clear hT
            have HI := Lib.hid hI; clear hI
            rcases hst with ⟨rfl, rfl⟩ | ⟨rfl, hbv⟩ | ⟨rfl, rfl⟩
            · by_cases x1 : R.length < P.length
              · have d1 : decide ((str R).size < (str P).size) = true := decide_eq_true (by rw [str_size, str_size]; exact x1)
                have d1' : decide (((str R).size : Int) < ((str P).size : Int)) = true := decide_eq_true (by rw [str_size, str_size]; omega)
                have hszX : (str R).size = R.length := str_size _
                have hszY : (str P).size = P.length := str_size _
                go_wp2
                go_quiet (fail)
                have hb2 := below_drewN hb nq
                go_wp2
                go_roundw
                case rel => exact ⟨_, _, rfl, rfl, (.inr (.inl ⟨by go_num, by rw [if_pos x1]⟩)), HTX.out.drewN nq, HI.out.drewN nq, hb2⟩
                case measure => simp [intOf]
              · have d1 : decide ((str R).size < (str P).size) = false := decide_eq_false (by rw [str_size, str_size]; exact x1)
                have d1' : decide (((str R).size : Int) < ((str P).size : Int)) = false := decide_eq_false (by rw [str_size, str_size]; omega)
                have hszX : (str R).size = R.length := str_size _
                have hszY : (str P).size = P.length := str_size _
                go_wp2
                go_quiet (fail)
                have hb2 := below_drewN hb nq
                go_wp2
                go_roundw
                case rel => exact ⟨_, _, rfl, rfl, (.inr (.inl ⟨by go_num, by rw [if_neg x1]⟩)), HTX.out.drewN nq, HI.out.drewN nq, hb2⟩
                case measure => simp [intOf]
            · by_cases x1 : R.length < P.length
              · rw [if_pos x1] at hbv hb3
                subst hbv
                by_cases x2 : S.length < R.length
                · have d1 : decide ((str S).size < (str R).size) = true := decide_eq_true (by rw [str_size, str_size]; exact x2)
                  have d1' : decide (((str S).size : Int) < ((str R).size : Int)) = true := decide_eq_true (by rw [str_size, str_size]; omega)
                  rw [if_pos x2] at hb3
                  have hszX : (str S).size = S.length := str_size _
                  have hszY : (str R).size = R.length := str_size _
                  go_wp2
                  go_quiet (fail)
                  have hb2 := below_drewN hb nq
                  go_wp2
                  go_roundw
                  case rel => exact ⟨_, _, rfl, rfl, (.inr (.inr ⟨by go_num, by rw [hb3]; rfl⟩)), HTX.out.drewN nq, HI.out.drewN nq, hb2⟩
                  case measure => simp [intOf]
                · have d1 : decide ((str S).size < (str R).size) = false := decide_eq_false (by rw [str_size, str_size]; exact x2)
                  have d1' : decide (((str S).size : Int) < ((str R).size : Int)) = false := decide_eq_false (by rw [str_size, str_size]; omega)
                  rw [if_neg x2] at hb3
                  have hszX : (str S).size = S.length := str_size _
                  have hszY : (str R).size = R.length := str_size _
                  go_wp2
                  go_quiet (fail)
                  have hb2 := below_drewN hb nq
                  go_wp2
                  go_roundw
                  case rel => exact ⟨_, _, rfl, rfl, (.inr (.inr ⟨by go_num, by rw [hb3]; rfl⟩)), HTX.out.drewN nq, HI.out.drewN nq, hb2⟩
                  case measure => simp [intOf]
              · rw [if_neg x1] at hbv hb3
                subst hbv
                by_cases x2 : S.length < P.length
                · have d1 : decide ((str S).size < (str P).size) = true := decide_eq_true (by rw [str_size, str_size]; exact x2)
                  have d1' : decide (((str S).size : Int) < ((str P).size : Int)) = true := decide_eq_true (by rw [str_size, str_size]; omega)
                  rw [if_pos x2] at hb3
                  have hszX : (str S).size = S.length := str_size _
                  have hszY : (str P).size = P.length := str_size _
                  go_wp2
                  go_quiet (fail)
                  have hb2 := below_drewN hb nq
                  go_wp2
                  go_roundw
                  case rel => exact ⟨_, _, rfl, rfl, (.inr (.inr ⟨by go_num, by rw [hb3]; rfl⟩)), HTX.out.drewN nq, HI.out.drewN nq, hb2⟩
                  case measure => simp [intOf]
                · have d1 : decide ((str S).size < (str P).size) = false := decide_eq_false (by rw [str_size, str_size]; exact x2)
                  have d1' : decide (((str S).size : Int) < ((str P).size : Int)) = false := decide_eq_false (by rw [str_size, str_size]; omega)
                  rw [if_neg x2] at hb3
                  have hszX : (str S).size = S.length := str_size _
                  have hszY : (str P).size = P.length := str_size _
                  go_wp2
                  go_quiet (fail)
                  have hb2 := below_drewN hb nq
                  go_wp2
                  go_roundw
                  case rel => exact ⟨_, _, rfl, rfl, (.inr (.inr ⟨by go_num, by rw [hb3]; rfl⟩)), HTX.out.drewN nq, HI.out.drewN nq, hb2⟩
                  case measure => simp [intOf]
            · clear hb3 z0 z1 z2
              have hba := best3_at HTX.out
              have hble := best3_le P R S
              rw [← HE.out.2.2.2.1] at hba hble
              rw [← HE.out.2.2.2.1]
              have hP := Bitpack.refPack_any A7 q c7 (iat (nulls vs)) 1 wr (HI.out.sl hnl) (by omega) hsm
              rw [hpk] at hP
              generalize BitMath.packE (iat (nulls vs)) 1 = E at hP
              have HP := Lib.hid hP; clear hP hpk hsm hnl
              go_wp2_with (go_at_call 68; (with_reducible refine HP.out.mono ?_); rintro e w6 ⟨rfl, hb6⟩; have hbb := bthen hb hb6 (Nat.le_refl _); have hba6 := (hb6.cell (p := ⟨w1.heap.size, (best k vs).1, none⟩) HTX.out.lt).trans hba; have hlt6 := Nat.lt_of_lt_of_le HTX.out.lt hb6.size)
              have hSe := fun w => Crc.refSeal_any (str (body k vs)) w (by rw [str_size]; unfold maxReach; omega)
              rw [str_list] at hSe
              have hput := HE.out.1
              rw [← hput] at hSe
              have hbd := HE.out.2.2.2.2
              have hen := HE.out.2.1
              have hok := HE.out.2.2.1
              generalize best k vs = C at *
              obtain ⟨ca, cs⟩ := C
              simp only [] at hbd hble hba6 hen hbestl ⊢
              have hVr : ∀ w, Calls Tryz.prog 32 #[.int .i64 (q : Nat)] w fun e w' => e = .returned (.string (str (cnt q))) ∧ Below w.heap.size w w' := fun w => Varint.Varint_any q w (by omega)
              have hw8 : IntKind.u8.wrap (ca : Int) = (ca : Int) := by rw [IntKind.wrap_u8]; omega
              have hcv := fun W g c => run_str_one W g c (ca : Int)
              have hs0 := byte_str hble
              rw [hs0] at hcv
              have e1 := str_append [UInt8.ofNat ca] (cnt q)
              have e2 := str_append ([UInt8.ofNat ca] ++ cnt q) (packed 1 (nulls vs))
              have e3 := str_append ([UInt8.ofNat ca] ++ cnt q ++ packed 1 (nulls vs)) cs
              rw [← hbd] at e3
              have hadd1 := add_str (str [UInt8.ofNat ca]) (str (cnt q)) (by rw [str_size, str_size]; simp; omega)
              have hadd2 := add_str (str [UInt8.ofNat ca] ++ str (cnt q)) (str (packed 1 (nulls vs))) (by rw [e1, str_size, str_size, List.length_append, hpl]; simp; omega)
              have hadd3 := add_str (str [UInt8.ofNat ca] ++ str (cnt q) ++ str (packed 1 (nulls vs))) (str cs) (by rw [e1, e2, str_size, str_size, List.length_append, List.length_append, hpl]; simp; omega)
              have hEE : str [UInt8.ofNat ca] ++ str (cnt q) ++ str (packed 1 (nulls vs)) ++ str cs = str (body k vs) := by rw [e1, e2, e3]
              rw [← hEE] at hSe
              obtain ⟨Z, hZ⟩ : ∃ Z, Z = str (put k vs) := ⟨_, rfl⟩
              rw [← hZ] at hSe
              have HEN := Lib.hid (And.intro hen (And.intro hok hZ)); clear hZ
              clear e1 e2 e3 hEE hbd hpl hcl hs0 hput hen hok hbestl HE hbl
              generalize str [UInt8.ofNat ca] = X0 at *
              generalize str (cnt q) = X1 at *
              generalize str (packed 1 (nulls vs)) = X2 at *
              generalize str cs = X3 at *
              have HVr := Lib.hid hVr; clear hVr
              have HSe := Lib.hid hSe; clear hSe
              have hc1 : (0 : Int) ≤ (ca : Int) := by omega
              have hc2 : (ca : Int) < 3 := by omega
              clear HTX hba hb6 HP hz HW
              go_wp2
              have hal1 : (w6.drew.alloc (.cells #[.int .u8 (ca : Int)] 5)).cell? ⟨w1.heap.size, ca, none⟩ = some (.string X3) := ((Vals.one_new (w := w6.drew) (.cells #[.int .u8 (ca : Int)] 5)).cell (p := ⟨w1.heap.size, ca, none⟩) hlt6).trans hba6
              go_region_with (first
                  | (go_at_call 32; (with_reducible refine (HVr.out _).mono ?_); rintro e wC ⟨rfl, hbC⟩; (try have hz1 : wC.cell? ⟨w6.heap.size, 0, none⟩ = some (.int .u8 (ca : Int)) := keep_new (V := w6.drew) hbC); (first | have hq1 : Below w6.heap.size w6 wC := bthen (Below.refl _ w6).drew hbC (Nat.le_refl _) | have hq1 : Below w6.heap.size w6 wC := bthen ((Below.refl _ w6).drew.alloc (Nat.le_refl _) (.cells #[.int .u8 (ca : Int)] 5)) hbC (Nat.le_refl _)); have hbc1 : wC.cell? ⟨w1.heap.size, ca, none⟩ = some (.string X3) := (hq1.cell (p := ⟨w1.heap.size, ca, none⟩) hlt6).trans hba6; have hal2 : (wC.alloc (.cells #[.int .u8 (ca : Int)] 5)).cell? ⟨w1.heap.size, ca, none⟩ = some (.string X3) := ((Vals.one_new (w := wC) (.cells #[.int .u8 (ca : Int)] 5)).cell (p := ⟨w1.heap.size, ca, none⟩) (Nat.lt_of_lt_of_le hlt6 hq1.size)).trans hbc1)
                  | (go_at_call 14; (with_reducible refine (HSe.out _).mono ?_); rintro e wS ⟨rfl, hbS⟩; (first | have hq2 : Below w6.heap.size w6 wS := bthen hq1 hbS (Nat.le_refl _) | have hq2 : Below w6.heap.size w6 wS := bthen (hq1.alloc hq1.size _) hbS (Nat.le_refl _))))
              all_goals
                go_wp2_with fail
                go_ret3
                exact ⟨ret_sii HEN.out.2.2 (by rw [HEN.out.1]) (by rw [HEN.out.2.1]; rfl), bthen hbb hq2 (Nat.le_refl _)⟩
end Go.Proofs.YtgmemdedpklnhaaGreat.Vec
