/-
  THE WALK of UtfCut.
-/
import Derived.Test.YtkkpcdpoldjmkaaUtfLaws2
namespace Go.Proofs.Ytkkpcdpoldjmkaa.Utf
open Go.RowKit UtfMath

/-- A row of like pieces. -/
def reps (t : List UInt8) : Nat → List UInt8
  | 0 => []
  | n + 1 => reps t n ++ t
theorem reps_length (t : List UInt8) (n : Nat) : (reps t n).length = n * t.length := by
  induction n with
  | zero => simp [reps]
  | succ n ih => simp only [reps]; rw [List.length_append, ih, Nat.succ_mul]
theorem reps_first {t : List UInt8} (h : first t = -1) (n : Nat) : first (reps t n) = -1 := by
  induction n with
  | zero => show first [] = -1; decide
  | succ n ih => simp only [reps]; exact (first_two ih).2 h
theorem put_cls {r : Nat} (h : r ≤ 1114111) : cls (sizeOf_ r) (at_ (put r) 0) := by
  unfold sizeOf_ put cls
  split
  · left; rw [at_cons_zero, nat_u8 (by omega)]; omega
  · split
    · right; left; rw [at_cons_zero, nat_u8 (by omega)]; omega
    · split
      · right; right; left; rw [at_cons_zero, nat_u8 (by omega)]; omega
      · right; right; right; rw [at_cons_zero, nat_u8 (by omega)]; omega
theorem put_cut {r k : Nat} (h : r ≤ 1114111) (h0 : 1 ≤ k) (hk : k < (put r).length) : first ((put r).take k) = 0 := by
  have hl : ((put r).take k).length = k := by rw [List.length_take]; omega
  refine first_bad (by intro e; rw [e] at hl; simp at hl; omega) ?_
  have h1 : at_ ((put r).take k) 0 = at_ (put r) 0 := by unfold at_; rw [List.getD_eq_getElem?_getD, List.getD_eq_getElem?_getD, List.getElem?_take, if_pos (by omega)]
  have := rune_cut (l := (put r).take k) (n := sizeOf_ r) (by rw [h1]; exact put_cls h) (by rw [hl, ← put_size]; exact hk)
  rw [this]
theorem cut_first {t c : List UInt8} (ht : first t = -1) (hc : first c = 0) (n : Nat) : first (reps t n ++ c) = (reps t n).length := by
  rw [first_append (reps_first ht n), hc, if_neg (by omega), Int.zero_add]


set_option maxRecDepth 100000 in
set_option maxHeartbeats 8000000 in
theorem utfCut_any (r cut pre : Int) (w : World) (_hr : (Lit.int .i64 r).wf = true) (_hc : (Lit.int .i64 cut).wf = true) (_hp : (Lit.int .i64 pre).wf = true) :
    Calls Try.prog 25 #[.int .i64 r, .int .i64 cut, .int .i64 pre] w fun e w' => e = .returned (.bool true) ∧ Below w.heap.size w w' := by
  clear _hr _hc _hp
  obtain ⟨b, hb, hb2⟩ := Crc.mod_nat r 50000 (by omega)
  replace hb2 : (IntKind.u64.wrap r).tmod 50000 = (b : Int) := hb2
  obtain ⟨x, hx⟩ : ∃ x, x = 128 + b := ⟨_, rfl⟩
  have hx2 : 128 + (b : Int) = (x : Int) := by omega
  have hxl : x < 50128 ∧ 128 ≤ x := by omega
  have ha : bits .and .i64 pre 7 = pre % 8 := by
    have := and_mask_i64 pre 3 (by omega); exact this
  obtain ⟨p, hpp⟩ : ∃ p : Nat, p = (pre % 8).toNat := ⟨_, rfl⟩
  have hp2 : pre % 8 = (p : Int) := by omega
  rw [hp2] at ha
  have hpl : p < 8 := by omega
  have hmx : may x := by unfold may; omega
  have hmi : mayI (x : Nat) = true := by rw [mayI_nat]; exact decide_eq_true hmx
  have hpu := fun w => put_any (x : Nat) w
  unfold putS putE at hpu
  simp only [hmi, if_true, Int.toNat_natCast] at hpu
  have HPU := Lib.hid hpu
  clear hpu hmi hp2 hpp hx
  obtain ⟨c1, hc1, hc1e⟩ := Crc.mod_nat cut 1 (by omega)
  replace hc1e : (IntKind.u64.wrap cut).tmod 1 = (c1 : Int) := hc1e
  obtain ⟨c2, hc2, hc2e⟩ := Crc.mod_nat cut 2 (by omega)
  replace hc2e : (IntKind.u64.wrap cut).tmod 2 = (c2 : Int) := hc2e
  have hz : (put x).length = 2 ∨ (put x).length = 3 := by
    rw [put_length]
    by_cases a : x < 2048
    · left; rw [if_neg (by omega), if_pos a]
    · right; rw [if_neg (by omega), if_neg a, if_pos (by omega)]
  rcases hz with hm | hm
  · obtain rfl : c1 = 0 := by omega
    clear hc2 hc2e c2 hc1
    have hex : (str (put x)).extract 0 1 = str ((put x).take 1) := by have := Crc.extract_str (str (put x)) 1; rw [str_toList] at this; exact this
    have hcf := put_cut (r := x) (k := 1) (by omega) (by omega) (by omega)
    have hCz : (str ((put x).take 1)).size ≤ 1 := by rw [str_size, List.length_take]; omega
    have hpf : first (put x) = -1 := first_put hmx
    have hzT : (str (put x)).size = 2 := by rw [str_size, hm]
    have hR : ∀ n, n ≤ p → (str (reps (put x) n)).size ≤ 24 := fun n hn => by rw [str_size, reps_length, hm]; omega
    have hfc : ∀ w, Calls Try.prog 104 #[.string (str (reps (put x) p) ++ str ((put x).take 1))] w fun e w' => e = .returned (.int .i64 ((str (reps (put x) p)).size : Nat)) ∧ Below w.heap.size w w' := fun w => by
      have h := first_any (str (reps (put x) p) ++ str ((put x).take 1)) w (by rw [ByteArray.size_append, str_size ((put x).take 1), List.length_take]; have := hR p (Nat.le_refl _); unfold maxReach; omega)
      rw [pre_append _ _ _ rfl, str_toList, cut_first hpf hcf p] at h
      rw [str_size]; exact h
    have hv1 : ∀ w, Calls Try.prog 106 #[.string (str (reps (put x) p))] w fun e w' => e = .returned (.bool true) ∧ Below w.heap.size w w' := fun w => by
      have h := valid_any (str (reps (put x) p)) w (by have := hR p (Nat.le_refl _); unfold maxReach; omega)
      have e : valid (str (reps (put x) p)).data.toList = true := by rw [str_toList]; unfold valid; rw [reps_first hpf]; rfl
      rw [e] at h; exact h
    have hv2 : ∀ w, Calls Try.prog 106 #[.string (str (reps (put x) p) ++ str ((put x).take 1))] w fun e w' => e = .returned (.bool false) ∧ Below w.heap.size w w' := fun w => by
      have h := valid_any (str (reps (put x) p) ++ str ((put x).take 1)) w (by rw [ByteArray.size_append, str_size ((put x).take 1), List.length_take]; have := hR p (Nat.le_refl _); unfold maxReach; omega)
      have e : valid (str (reps (put x) p) ++ str ((put x).take 1)).data.toList = false := by rw [pre_append _ _ _ rfl, str_toList]; unfold valid; rw [cut_first hpf hcf p]; exact decide_eq_false (by omega)
      rw [e] at h; exact h
    have HFC := Lib.hid hfc
    have HV1 := Lib.hid hv1
    have HV2 := Lib.hid hv2
    have hcat : ∀ n, str (reps (put x) n) ++ str (put x) = str (reps (put x) (n + 1)) := fun n => str_eq (by rw [append_toList]; simp [reps])
    have HC := Lib.hid hcat
    have HRR := Lib.hid hR
    clear hfc hv1 hv2 hcat hR hpf hcf hm hmx
    have hz0 : str (reps (put x) 0) = { data := #[] } := rfl
    generalize str ((put x).take 1) = C at *
    generalize hrs : (fun n => str (reps (put x) n)) = RS at *
    have hrs2 : ∀ n, str (reps (put x) n) = RS n := fun n => by rw [← hrs]
    simp only [hrs2] at HFC HV1 HV2 HC HRR hz0
    clear hrs hrs2
    generalize str (put x) = T at *
    generalize (x : Int) = xI at *
    go_enter Try.func25, Try.ntmps25
    go_wp2_with (first
      | (go_at_call 108; with_reducible refine (awake_any _).mono ?_; rintro e w1 ⟨rfl, hb1⟩)
      | (go_at_call 102; with_reducible refine (HPU.out _).mono ?_; rintro e w2 ⟨rfl, hb2⟩)
      | (go_at_call 56; with_reducible refine (boathouseNames.num_any _ _).mono ?_; rintro e w' ⟨rfl, rfl⟩))
    go_loop [10, 11] (fun sv iv => ∃ n : Nat, n ≤ p ∧ iv = .int .i64 n ∧ sv = .string (RS n)) (fun _ iv => p - (intOf iv).toNat)
    case atStart => exact ⟨0, Nat.zero_le _, rfl, by rw [hz0]⟩
    case round =>
      obtain ⟨n, hn, rfl, rfl⟩ := hrel
      have hsz := HRR.out n hn
      by_cases hnp : n < p
      · generalize hSS : RS n = SS at *
        have HSS := Lib.hid hSS; clear hSS
        go_wp2
        go_round
        case rel => exact ⟨n + 1, by omega, by go_num, by rw [← HC.out, HSS.out]⟩
        case measure => simp [intOf]; omega
      · obtain rfl : n = p := by omega
        clear hnp
        generalize RS n = SS at *
        go_wp2_with (first
          | (go_at_call 104; with_reducible refine (HFC.out _).mono ?_; rintro e w3 ⟨rfl, hb3⟩)
          | (go_at_call 106; with_reducible refine (HV1.out _).mono ?_; rintro e w4 ⟨rfl, hb4⟩)
          | (go_at_call 106; with_reducible refine (HV2.out _).mono ?_; rintro e w5 ⟨rfl, hb5⟩))
        go_ret
        exact ⟨rfl, bthen (bthen (bthen (bthen hb1 hb2 (Nat.le_refl _)) hb3 (Nat.le_refl _)) hb4 (Nat.le_refl _)) hb5 (Nat.le_refl _)⟩
  · clear hc1e hc1 c1
    have hc : c2 = 0 ∨ c2 = 1 := by omega
    clear hc2
    rcases hc with rfl | rfl
    ·
      have hex : (str (put x)).extract 0 1 = str ((put x).take 1) := by have := Crc.extract_str (str (put x)) 1; rw [str_toList] at this; exact this
      have hcf := put_cut (r := x) (k := 1) (by omega) (by omega) (by omega)
      have hCz : (str ((put x).take 1)).size ≤ 1 := by rw [str_size, List.length_take]; omega
      have hpf : first (put x) = -1 := first_put hmx
      have hzT : (str (put x)).size = 3 := by rw [str_size, hm]
      have hR : ∀ n, n ≤ p → (str (reps (put x) n)).size ≤ 24 := fun n hn => by rw [str_size, reps_length, hm]; omega
      have hfc : ∀ w, Calls Try.prog 104 #[.string (str (reps (put x) p) ++ str ((put x).take 1))] w fun e w' => e = .returned (.int .i64 ((str (reps (put x) p)).size : Nat)) ∧ Below w.heap.size w w' := fun w => by
        have h := first_any (str (reps (put x) p) ++ str ((put x).take 1)) w (by rw [ByteArray.size_append, str_size ((put x).take 1), List.length_take]; have := hR p (Nat.le_refl _); unfold maxReach; omega)
        rw [pre_append _ _ _ rfl, str_toList, cut_first hpf hcf p] at h
        rw [str_size]; exact h
      have hv1 : ∀ w, Calls Try.prog 106 #[.string (str (reps (put x) p))] w fun e w' => e = .returned (.bool true) ∧ Below w.heap.size w w' := fun w => by
        have h := valid_any (str (reps (put x) p)) w (by have := hR p (Nat.le_refl _); unfold maxReach; omega)
        have e : valid (str (reps (put x) p)).data.toList = true := by rw [str_toList]; unfold valid; rw [reps_first hpf]; rfl
        rw [e] at h; exact h
      have hv2 : ∀ w, Calls Try.prog 106 #[.string (str (reps (put x) p) ++ str ((put x).take 1))] w fun e w' => e = .returned (.bool false) ∧ Below w.heap.size w w' := fun w => by
        have h := valid_any (str (reps (put x) p) ++ str ((put x).take 1)) w (by rw [ByteArray.size_append, str_size ((put x).take 1), List.length_take]; have := hR p (Nat.le_refl _); unfold maxReach; omega)
        have e : valid (str (reps (put x) p) ++ str ((put x).take 1)).data.toList = false := by rw [pre_append _ _ _ rfl, str_toList]; unfold valid; rw [cut_first hpf hcf p]; exact decide_eq_false (by omega)
        rw [e] at h; exact h
      have HFC := Lib.hid hfc
      have HV1 := Lib.hid hv1
      have HV2 := Lib.hid hv2
      have hcat : ∀ n, str (reps (put x) n) ++ str (put x) = str (reps (put x) (n + 1)) := fun n => str_eq (by rw [append_toList]; simp [reps])
      have HC := Lib.hid hcat
      have HRR := Lib.hid hR
      clear hfc hv1 hv2 hcat hR hpf hcf hm hmx
      have hz0 : str (reps (put x) 0) = { data := #[] } := rfl
      generalize str ((put x).take 1) = C at *
      generalize hrs : (fun n => str (reps (put x) n)) = RS at *
      have hrs2 : ∀ n, str (reps (put x) n) = RS n := fun n => by rw [← hrs]
      simp only [hrs2] at HFC HV1 HV2 HC HRR hz0
      clear hrs hrs2
      generalize str (put x) = T at *
      generalize (x : Int) = xI at *
      go_enter Try.func25, Try.ntmps25
      go_wp2_with (first
        | (go_at_call 108; with_reducible refine (awake_any _).mono ?_; rintro e w1 ⟨rfl, hb1⟩)
        | (go_at_call 102; with_reducible refine (HPU.out _).mono ?_; rintro e w2 ⟨rfl, hb2⟩)
        | (go_at_call 56; with_reducible refine (boathouseNames.num_any _ _).mono ?_; rintro e w' ⟨rfl, rfl⟩))
      go_loop [10, 11] (fun sv iv => ∃ n : Nat, n ≤ p ∧ iv = .int .i64 n ∧ sv = .string (RS n)) (fun _ iv => p - (intOf iv).toNat)
      case atStart => exact ⟨0, Nat.zero_le _, rfl, by rw [hz0]⟩
      case round =>
        obtain ⟨n, hn, rfl, rfl⟩ := hrel
        have hsz := HRR.out n hn
        by_cases hnp : n < p
        · generalize hSS : RS n = SS at *
          have HSS := Lib.hid hSS; clear hSS
          go_wp2
          go_round
          case rel => exact ⟨n + 1, by omega, by go_num, by rw [← HC.out, HSS.out]⟩
          case measure => simp [intOf]; omega
        · obtain rfl : n = p := by omega
          clear hnp
          generalize RS n = SS at *
          go_wp2_with (first
            | (go_at_call 104; with_reducible refine (HFC.out _).mono ?_; rintro e w3 ⟨rfl, hb3⟩)
            | (go_at_call 106; with_reducible refine (HV1.out _).mono ?_; rintro e w4 ⟨rfl, hb4⟩)
            | (go_at_call 106; with_reducible refine (HV2.out _).mono ?_; rintro e w5 ⟨rfl, hb5⟩))
          go_ret
          exact ⟨rfl, bthen (bthen (bthen (bthen hb1 hb2 (Nat.le_refl _)) hb3 (Nat.le_refl _)) hb4 (Nat.le_refl _)) hb5 (Nat.le_refl _)⟩
    ·
      have hex : (str (put x)).extract 0 2 = str ((put x).take 2) := by have := Crc.extract_str (str (put x)) 2; rw [str_toList] at this; exact this
      have hcf := put_cut (r := x) (k := 2) (by omega) (by omega) (by omega)
      have hCz : (str ((put x).take 2)).size ≤ 2 := by rw [str_size, List.length_take]; omega
      have hpf : first (put x) = -1 := first_put hmx
      have hzT : (str (put x)).size = 3 := by rw [str_size, hm]
      have hR : ∀ n, n ≤ p → (str (reps (put x) n)).size ≤ 24 := fun n hn => by rw [str_size, reps_length, hm]; omega
      have hfc : ∀ w, Calls Try.prog 104 #[.string (str (reps (put x) p) ++ str ((put x).take 2))] w fun e w' => e = .returned (.int .i64 ((str (reps (put x) p)).size : Nat)) ∧ Below w.heap.size w w' := fun w => by
        have h := first_any (str (reps (put x) p) ++ str ((put x).take 2)) w (by rw [ByteArray.size_append, str_size ((put x).take 2), List.length_take]; have := hR p (Nat.le_refl _); unfold maxReach; omega)
        rw [pre_append _ _ _ rfl, str_toList, cut_first hpf hcf p] at h
        rw [str_size]; exact h
      have hv1 : ∀ w, Calls Try.prog 106 #[.string (str (reps (put x) p))] w fun e w' => e = .returned (.bool true) ∧ Below w.heap.size w w' := fun w => by
        have h := valid_any (str (reps (put x) p)) w (by have := hR p (Nat.le_refl _); unfold maxReach; omega)
        have e : valid (str (reps (put x) p)).data.toList = true := by rw [str_toList]; unfold valid; rw [reps_first hpf]; rfl
        rw [e] at h; exact h
      have hv2 : ∀ w, Calls Try.prog 106 #[.string (str (reps (put x) p) ++ str ((put x).take 2))] w fun e w' => e = .returned (.bool false) ∧ Below w.heap.size w w' := fun w => by
        have h := valid_any (str (reps (put x) p) ++ str ((put x).take 2)) w (by rw [ByteArray.size_append, str_size ((put x).take 2), List.length_take]; have := hR p (Nat.le_refl _); unfold maxReach; omega)
        have e : valid (str (reps (put x) p) ++ str ((put x).take 2)).data.toList = false := by rw [pre_append _ _ _ rfl, str_toList]; unfold valid; rw [cut_first hpf hcf p]; exact decide_eq_false (by omega)
        rw [e] at h; exact h
      have HFC := Lib.hid hfc
      have HV1 := Lib.hid hv1
      have HV2 := Lib.hid hv2
      have hcat : ∀ n, str (reps (put x) n) ++ str (put x) = str (reps (put x) (n + 1)) := fun n => str_eq (by rw [append_toList]; simp [reps])
      have HC := Lib.hid hcat
      have HRR := Lib.hid hR
      clear hfc hv1 hv2 hcat hR hpf hcf hm hmx
      have hz0 : str (reps (put x) 0) = { data := #[] } := rfl
      generalize str ((put x).take 2) = C at *
      generalize hrs : (fun n => str (reps (put x) n)) = RS at *
      have hrs2 : ∀ n, str (reps (put x) n) = RS n := fun n => by rw [← hrs]
      simp only [hrs2] at HFC HV1 HV2 HC HRR hz0
      clear hrs hrs2
      generalize str (put x) = T at *
      generalize (x : Int) = xI at *
      go_enter Try.func25, Try.ntmps25
      go_wp2_with (first
        | (go_at_call 108; with_reducible refine (awake_any _).mono ?_; rintro e w1 ⟨rfl, hb1⟩)
        | (go_at_call 102; with_reducible refine (HPU.out _).mono ?_; rintro e w2 ⟨rfl, hb2⟩)
        | (go_at_call 56; with_reducible refine (boathouseNames.num_any _ _).mono ?_; rintro e w' ⟨rfl, rfl⟩))
      go_loop [10, 11] (fun sv iv => ∃ n : Nat, n ≤ p ∧ iv = .int .i64 n ∧ sv = .string (RS n)) (fun _ iv => p - (intOf iv).toNat)
      case atStart => exact ⟨0, Nat.zero_le _, rfl, by rw [hz0]⟩
      case round =>
        obtain ⟨n, hn, rfl, rfl⟩ := hrel
        have hsz := HRR.out n hn
        by_cases hnp : n < p
        · generalize hSS : RS n = SS at *
          have HSS := Lib.hid hSS; clear hSS
          go_wp2
          go_round
          case rel => exact ⟨n + 1, by omega, by go_num, by rw [← HC.out, HSS.out]⟩
          case measure => simp [intOf]; omega
        · obtain rfl : n = p := by omega
          clear hnp
          generalize RS n = SS at *
          go_wp2_with (first
            | (go_at_call 104; with_reducible refine (HFC.out _).mono ?_; rintro e w3 ⟨rfl, hb3⟩)
            | (go_at_call 106; with_reducible refine (HV1.out _).mono ?_; rintro e w4 ⟨rfl, hb4⟩)
            | (go_at_call 106; with_reducible refine (HV2.out _).mono ?_; rintro e w5 ⟨rfl, hb5⟩))
          go_ret
          exact ⟨rfl, bthen (bthen (bthen (bthen hb1 hb2 (Nat.le_refl _)) hb3 (Nat.le_refl _)) hb4 (Nat.le_refl _)) hb5 (Nat.le_refl _)⟩
end Go.Proofs.Ytkkpcdpoldjmkaa.Utf
