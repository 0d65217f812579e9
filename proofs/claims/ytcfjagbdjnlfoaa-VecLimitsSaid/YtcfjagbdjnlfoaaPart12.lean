/-
  Lemmas of this claim, text behind text: VecTk3, VecTk4, VecTk5, VecTk6, VecTk7, VecGet, VecUnv, VecAwake, VecPuts, VecGets, VecBack. Each states its own conditions.
-/
import Derived.Test.YtcfjagbdjnlfoaaPart02
import Derived.Test.YtcfjagbdjnlfoaaPart04
import Derived.Test.YtcfjagbdjnlfoaaPart06
import Derived.Test.YtcfjagbdjnlfoaaPart08
import Derived.Test.YtcfjagbdjnlfoaaPart10
import Derived.Test.YtcfjagbdjnlfoaaPart11

/-
  THE WALKS of the document's own taker: some, one by one.
-/

namespace Go.Proofs.Ytcfjagbdjnlfoaa.Vec
open Go.RowKit ValMath Vals Sl VecMath Words

theorem readValsR_okR (k : Int) (n : Nat) {r : Rd} (ok : OkR r) : OkR (readValsR k n r).2 := by
  induction n with
  | zero => exact ok
  | succ n ih =>
    simp only [readValsR]
    split
    · exact ih
    · exact rdVal_okR ih
theorem readValsR_stop (k : Int) {q : Nat} {r : Rd} (h : (readValsR k q r).2.bad = true) (j : Nat) : readValsR k (q + j) r = readValsR k q r := by
  induction j with
  | zero => rfl
  | succ j ih =>
    rw [← Nat.add_assoc]
    simp only [readValsR]
    rw [ih, if_pos h]
theorem readValsR_fine {k : Int} (hk : k = 1 ∨ k = 2 ∨ k = 3) (n : Nat) (r : Rd) : ∀ v ∈ (readValsR k n r).1, Fine v := by
  induction n with
  | zero => intro v hv; simp [readValsR] at hv
  | succ n ih =>
    intro v hv
    simp only [readValsR] at hv
    split at hv
    · exact ih v hv
    · simp only [List.mem_append, List.mem_singleton] at hv
      rcases hv with hv | rfl
      · exact ih v hv
      · exact (rdVal_fine hk _).1
set_option maxRecDepth 20000 in
set_option maxHeartbeats 4000000 in
theorem tsome0_any (k : Int) (g enc many : Nat) (r : Rd) (w : World) (he1 : enc ≠ 1) (he2 : enc ≠ 2) (hk : k = 1 ∨ k = 3) (h : Rdr 116 w g r) (ok : OkR r) (hm : many ≤ 4096) :
    Calls Try.prog 67 #[.pointer (some ⟨g, 0, none⟩), .int .i64 (enc : Nat), .int .i64 k, .int .i64 (many : Nat)] w fun e w' => ∃ v, e = .returned v ∧ OwnV w' w.heap.size v (readValsR k many r).1 ∧ Rdr 116 w' g (readValsR k many r).2 ∧ w.grownBy w' (some g) := by
  have e1 : (((enc : Nat) : Int) == 1) = false := by simp; omega
  have e2 : (((enc : Nat) : Int) == 2) = false := by simp; omega
  have hk2 : (k == 2) = false := by rcases hk with rfl | rfl <;> rfl
  have hk3 : k = 1 ∨ k = 2 ∨ k = 3 := by rcases hk with rfl | rfl <;> simp
  have hg := h.lt
  have HK := Lib.hid (And.intro hk3 ok); clear hk hk3 ok he1 he2
  have H := Lib.hid h; clear h
  go_enter Try.func67, Try.ntmps67
  go_wp2
  go_loopw [9, 22] (fun tv iv wr => ∃ q : Nat, q ≤ many ∧ iv = .int .i64 q ∧ OwnV wr w.heap.size tv (readValsR k q r).1 ∧ Rdr 116 wr g (readValsR k q r).2 ∧ w.grownBy wr (some g)) (fun _ iv _ => many - (intOf iv).toNat)
  case atStart => exact ⟨0, Nat.zero_le _, rfl, OwnV.nil _ _, H.out, World.grownBy.refl _ _⟩
  case round =>
    clear H
    obtain ⟨q, hq, rfl, hO, hR, hgr⟩ := hrel
    have hml := readValsR_length k q r
    obtain ⟨A9, c9, rfl, _, _⟩ := hO.form' (n := (readValsR k q r).1.length) rfl
    obtain ⟨z0, z1, z2⟩ := hR.cells
    by_cases hlt : q < many
    · by_cases hbd : (readValsR k q r).2.bad = true
      · have hst := readValsR_stop k hbd (many - q)
        rw [show q + (many - q) = many by omega] at hst
        have HST := Lib.hid hst; clear hst
        rw [hbd] at z2
        have HO := Lib.hid hO; clear hO
        have HR := Lib.hid hR; clear hR
        go_wp2
        go_ret
        exact ⟨_, rfl, by rw [HST.out]; exact HO.out, by rw [HST.out]; exact HR.out, hgr⟩
      · have hbf : (readValsR k q r).2.bad = false := by simpa using hbd
        have hrs : readValsR k (q + 1) r = ((readValsR k q r).1 ++ [(rdVal k (readValsR k q r).2).1], (rdVal k (readValsR k q r).2).2) := by
          simp only [readValsR]; rw [if_neg hbd]
        have hS := fun w h => tvalue_any k g (readValsR k q r).2 w HK.out.1 h (readValsR_okR k q HK.out.2)
        have hfl : (readValsR k q r).1.length < few := by unfold few; omega
        rw [hbf] at z2
        clear hbd hbf
        generalize readValsR k q r = X at *
        obtain ⟨O, r2⟩ := X
        simp only [] at hrs hS hO hR hml hfl z0 z1 z2
        generalize rdVal k r2 = Y at *
        obtain ⟨⟨ku, iu, bu, su⟩, r3⟩ := Y
        simp only [vagg] at hrs hS
        have HS := Lib.hid hS; clear hS
        have HRS := Lib.hid (And.intro hrs hfl); clear hrs hfl
        have HO := Lib.hid hO; clear hO
        have HR := Lib.hid hR; clear hR
        have HG := Lib.hid hgr; clear hgr
        have hsz := HG.out.size
        go_wp2_with (first
          | (go_at_call 98; (with_reducible refine (HS.out _ HR.out).mono ?_); rintro e w1 ⟨rfl, hR1, hg1⟩; have HR1 := Lib.hid hR1; have HO1 := Lib.hid (HO.out.keepB hg1 (own_ne HO.out hg)); have HG1 := Lib.hid (grown_then HG.out hg1); clear hR1 hg1; have hsz1 := HG1.out.size)
          | (at_builtin; (refine wpList_push_val rfl (.tmp 58) (.tmp 62) rfl w.heap.size (.slice A9 O.length c9) O ⟨ku, iu, bu, su⟩ w1.heap.size 1 rfl rfl (t := 38) (fr := (0, 0)) (heap_alloc_new w1 (.cells #[.int .i64 ku, .int .i64 iu, .bool bu, .string su] 38)) (HO1.out.alloc (.cells #[.int .i64 ku, .int .i64 iu, .bool bu, .string su] 38)) HRS.out.2 (by simp; omega) ?_; intro u2 wB hI2 hgB hatB)))
        go_roundw
        case rel => exact ⟨q + 1, by omega, by go_num, by rw [HRS.out.1]; exact hI2, by rw [HRS.out.1]; exact (HR1.out.alloc _).grown hgB (fun e => own_ne HO1.out hg e.symm), grown_step (grown_then HG1.out (World.grownBy_alloc _ _ _)) hgB (own_base HO1.out)⟩
        case measure => simp [intOf]; omega
    · obtain rfl : q = many := by omega
      go_wp2
      go_ret
      exact ⟨_, rfl, hO, hR, hgr⟩
end Go.Proofs.Ytcfjagbdjnlfoaa.Vec

/-
  THE WALKS of the document's own taker: some, bools.
-/

namespace Go.Proofs.Ytcfjagbdjnlfoaa.Vec
open Go.RowKit ValMath Vals Sl VecMath Words

set_option maxRecDepth 20000 in
set_option maxHeartbeats 4000000 in
theorem tsomeB_any (g enc many : Nat) (r : Rd) (w : World) (he1 : enc ≠ 1) (he2 : enc ≠ 2) (h : Rdr 116 w g r) (ok : OkR r) (hm : many ≤ 4096) :
    Calls Try.prog 67 #[.pointer (some ⟨g, 0, none⟩), .int .i64 (enc : Nat), .int .i64 2, .int .i64 (many : Nat)] w fun e w' => ∃ v, e = .returned v ∧ OwnV w' w.heap.size v ((rdPackedR many 1 r).1.map fun x => ⟨2, 0, decide (x = 1), ByteArray.empty⟩) ∧ Rdr 116 w' g (rdPackedR many 1 r).2 ∧ w.grownBy w' (some g) := by
  have e1 : (((enc : Nat) : Int) == 1) = false := by simp; omega
  have e2 : (((enc : Nat) : Int) == 2) = false := by simp; omega
  clear he1 he2
  have hg := h.lt
  have hP : ∀ w, Rdr 116 w g r → Calls Try.prog 66 #[.pointer (some ⟨g, 0, none⟩), .int .i64 (many : Nat), .int .i64 1] w fun e w' => ∃ v, e = .returned v ∧ OwnI w' w.heap.size v (iat (rdPackedR many 1 r).1) ∧ Rdr 116 w' g (rdPackedR many 1 r).2 ∧ w.grownBy w' (some g) := fun w h => tpacked_any g many 1 r w h ok hm (by omega)
  have hle := rdPackedR_len many 1 r
  generalize rdPackedR many 1 r = X at *
  obtain ⟨xs, r2⟩ := X
  simp only [] at hP hle ⊢
  have HP := Lib.hid hP; clear hP ok
  have H := Lib.hid h; clear h
  go_enter Try.func67, Try.ntmps67
  go_wp2_with (go_at_call 66; (with_reducible refine (HP.out _ H.out).mono ?_); rintro e w1 ⟨v, rfl, hI, hR, hgr⟩; obtain ⟨A5, c5, rfl, _, _, _⟩ := hI.form (n := xs.length) (iat_length xs); have HI := Lib.hid hI; have HR := Lib.hid hR; have HG := Lib.hid hgr; clear hI hR hgr)
  go_loopw [9, 21] (fun tv iv wr => ∃ q : Nat, q ≤ xs.length ∧ iv = .int .i64 q ∧ OwnV wr w.heap.size tv ((xs.take q).map fun x => ⟨2, 0, decide (x = 1), ByteArray.empty⟩) ∧ OwnI wr w.heap.size (.slice A5 xs.length c5) (iat xs) ∧ Rdr 116 wr g r2 ∧ w.grownBy wr (some g)) (fun _ iv _ => xs.length - (intOf iv).toNat)
  case atStart => exact ⟨0, Nat.zero_le _, rfl, OwnV.nil _ _, HI.out, HR.out, HG.out⟩
  case round =>
    clear HI HR HG H HP
    obtain ⟨q, hq, rfl, hO, hI, hR, hgr⟩ := hrel
    have hml : ((xs.take q).map fun x => (⟨2, 0, decide (x = 1), ByteArray.empty⟩ : Val)).length = q := by rw [List.length_map, List.length_take]; omega
    obtain ⟨A9, c9, rfl, _, _⟩ := hO.form' (n := q) hml
    by_cases hlt : q < xs.length
    · obtain ⟨b1, o1, y, hy, rfl, hb1, c0⟩ := (hI.sl (iat_length xs)).at_ hlt
      obtain ⟨x, rfl, hx⟩ := iat_get hy
      have hts := iat_take hx (fun x => (⟨2, 0, decide (x = 1), ByteArray.empty⟩ : Val))
      have he := eq_one x
      have hfl : ((xs.take q).map fun x => (⟨2, 0, decide (x = 1), ByteArray.empty⟩ : Val)).length < few := by rw [hml]; unfold few; omega
      generalize ((xs.take q).map fun x => (⟨2, 0, decide (x = 1), ByteArray.empty⟩ : Val)) = O at *
      generalize decide (x = 1) = bt at *
      have HRS := Lib.hid (And.intro hts (And.intro hml hfl)); clear hts hml hfl hx hy
      have HO := Lib.hid hO; clear hO
      have HR := Lib.hid hR; clear hR
      have HI := Lib.hid hI; clear hI
      have HG := Lib.hid hgr; clear hgr
      have hsz := HG.out.size
      go_wp2_with (at_builtin; (refine wpList_push_val rfl (.tmp 35) (.tmp 43) rfl w.heap.size (.slice A9 q c9) O ⟨2, 0, bt, ByteArray.empty⟩ wr.heap.size 1 rfl rfl (t := 38) (fr := (0, 0)) (heap_alloc_new wr (.cells #[.int .i64 2, .int .i64 0, .bool bt, .string ByteArray.empty] 38)) (HO.out.alloc (.cells #[.int .i64 2, .int .i64 0, .bool bt, .string ByteArray.empty] 38)) HRS.out.2.2 (by simp; omega) ?_; intro u2 wB hI2 hgB hatB))
      go_roundw
      case rel => exact ⟨q + 1, by omega, by go_num, by rw [HRS.out.1]; exact hI2, (HI.out.alloc _).keepV (HO.out.alloc _) hgB, (HR.out.alloc _).grown hgB (fun e => own_ne HO.out hg e.symm), grown_step (grown_then HG.out (World.grownBy_alloc _ _ _)) hgB (own_base HO.out)⟩
      case measure => simp [intOf]; omega
    · obtain rfl : q = xs.length := by omega
      rw [List.take_of_length_le (Nat.le_refl _)] at hO
      go_wp2
      go_ret
      exact ⟨_, rfl, hO, hR, hgr⟩
end Go.Proofs.Ytcfjagbdjnlfoaa.Vec

/-
  THE WALKS of the document's own taker: some, by runs.
-/


namespace Go.Proofs.Ytcfjagbdjnlfoaa.Vec
open Go.RowKit ValMath Vals Sl VecMath Words

theorem runsR_okR (k : Int) (many n : Nat) {r : Rd} (ok : OkR r) : OkR (runsR k many n r).2 := by
  induction n with
  | zero => exact ok
  | succ n ih =>
    simp only [runsR, runStepR]
    split
    · exact ih
    · exact rdVal_okR (rdNum_okR ih)
theorem runsR_fine {k : Int} (hk : k = 1 ∨ k = 2 ∨ k = 3) (many n : Nat) (r : Rd) : ∀ v ∈ (runsR k many n r).1, Fine v := by
  induction n with
  | zero => intro v hv; simp [runsR] at hv
  | succ n ih =>
    intro v hv
    simp only [runsR, runStepR] at hv
    split at hv
    · exact ih v hv
    · simp only [List.mem_append, List.mem_replicate] at hv
      rcases hv with hv | ⟨_, rfl⟩
      · exact ih v hv
      · exact (rdVal_fine hk _).1
theorem runStepR_good {k : Int} {many : Nat} {s : List Val × Rd} (h : s.2.bad = false) :
    runStepR k many s = (s.1 ++ List.replicate (min (rdNum 4096 s.2).1 (many - s.1.length)) (rdVal k (rdNum 4096 s.2).2).1, (rdVal k (rdNum 4096 s.2).2).2) := by
  unfold runStepR; rw [h]; rfl
set_option maxRecDepth 20000 in
set_option maxHeartbeats 8000000 in
theorem tsome1_any (k : Int) (g many : Nat) (r : Rd) (w : World) (hk : k = 1 ∨ k = 2 ∨ k = 3) (h : Rdr 116 w g r) (ok : OkR r) (hm : many ≤ 4096) :
    Calls Try.prog 67 #[.pointer (some ⟨g, 0, none⟩), .int .i64 1, .int .i64 k, .int .i64 (many : Nat)] w fun e w' => ∃ v, e = .returned v ∧ OwnV w' w.heap.size v (runsR k many (rdNum 4096 r).1 (rdNum 4096 r).2).1 ∧ Rdr 116 w' g (runsR k many (rdNum 4096 r).1 (rdNum 4096 r).2).2 ∧ w.grownBy w' (some g) := by
  have hg := h.lt
  have hN : ∀ w, Rdr 116 w g r → Calls Try.prog 65 #[.pointer (some ⟨g, 0, none⟩), .int .i64 4096] w fun e w' => e = .returned (.int .i64 ((rdNum 4096 r).1 : Nat)) ∧ Rdr 116 w' g (rdNum 4096 r).2 ∧ w.grownBy w' (some g) := fun w h => tnum_any g 4096 r w h ok
  have hle := rdNum_le 4096 r
  have ok2 := rdNum_okR (m := 4096) ok
  generalize rdNum 4096 r = X at *
  obtain ⟨c, r2⟩ := X
  simp only [] at hN hle ok2 ⊢
  have HK := Lib.hid (And.intro hk ok2); clear hk ok ok2
  have HN := Lib.hid hN; clear hN
  have H := Lib.hid h; clear h
  go_enter Try.func67, Try.ntmps67
  go_wp2_with (go_at_call 65; (with_reducible refine (HN.out _ H.out).mono ?_); rintro e w1 ⟨rfl, hR, hgr⟩; have HR := Lib.hid hR; have HG := Lib.hid hgr; clear hR hgr)
  clear H HN
  go_loopw [9, 11] (fun tv iv wr => ∃ q : Nat, q ≤ c ∧ iv = .int .i64 q ∧ OwnV wr w.heap.size tv (runsR k many q r2).1 ∧ Rdr 116 wr g (runsR k many q r2).2 ∧ w.grownBy wr (some g)) (fun _ iv _ => c - (intOf iv).toNat)
  case atStart => exact ⟨0, Nat.zero_le _, rfl, OwnV.nil _ _, HR.out, HG.out⟩
  case round =>
    clear HR HG
    obtain ⟨q, hq, rfl, hO, hR, hgr⟩ := hrel
    have hsl := runsR_length k many q r2
    have ok3 := runsR_okR k many q HK.out.2
    obtain ⟨z0, z1, z2⟩ := hR.cells
    by_cases hlt : q < c
    · by_cases hbd : (runsR k many q r2).2.bad = true
      · have hst := runsR_stop hbd (c - q)
        rw [show q + (c - q) = c by omega] at hst
        have HST := Lib.hid hst; clear hst
        rw [hbd] at z2
        have HO := Lib.hid hO; clear hO
        have HR := Lib.hid hR; clear hR
        go_wp2
        go_ret
        exact ⟨_, rfl, by rw [HST.out]; exact HO.out, by rw [HST.out]; exact HR.out, hgr⟩
      · have hbf : (runsR k many q r2).2.bad = false := by simpa using hbd
        have hrs : runsR k many (q + 1) r2 = runStepR k many (runsR k many q r2) := rfl
        rw [runStepR_good hbf] at hrs
        rw [hbf] at z2
        clear hbd hbf
        generalize runsR k many q r2 = X at *
        obtain ⟨S, r3⟩ := X
        simp only [] at hO hR hsl ok3 hrs z0 z1 z2
        have hN2 : ∀ w, Rdr 116 w g r3 → Calls Try.prog 65 #[.pointer (some ⟨g, 0, none⟩), .int .i64 4096] w fun e w' => e = .returned (.int .i64 ((rdNum 4096 r3).1 : Nat)) ∧ Rdr 116 w' g (rdNum 4096 r3).2 ∧ w.grownBy w' (some g) := fun w h => tnum_any g 4096 r3 w h ok3
        have hle2 := rdNum_le 4096 r3
        have ok4 := rdNum_okR (m := 4096) ok3
        generalize rdNum 4096 r3 = Y at *
        obtain ⟨d, r4⟩ := Y
        simp only [] at hN2 hle2 ok4 hrs
        have hS := fun w h => tvalue_any k g r4 w HK.out.1 h ok4
        generalize rdVal k r4 = Z at *
        obtain ⟨⟨ku, iu, bu, su⟩, r5⟩ := Z
        simp only [vagg] at hS hrs
        have HRS := Lib.hid hrs; clear hrs
        have HN2 := Lib.hid hN2; clear hN2
        have HS := Lib.hid hS; clear hS
        obtain ⟨A9, c9, rfl, _, _⟩ := hO.form' (n := S.length) rfl
        have HO := Lib.hid hO; clear hO
        have HR := Lib.hid hR; clear hR
        have HG := Lib.hid hgr; clear hgr ok3 ok4
        have hsz := HG.out.size
        go_wp2_with (first
          | (go_at_call 65; (with_reducible refine (HN2.out _ HR.out).mono ?_); rintro e w2 ⟨rfl, hR2, hg2⟩; have HR2 := Lib.hid hR2; have HO2 := Lib.hid (HO.out.keepB hg2 (own_ne HO.out hg)); have HG2 := Lib.hid (grown_then HG.out hg2); clear hR2 hg2)
          | (go_at_call 98; (with_reducible refine (HS.out _ HR2.out).mono ?_); rintro e w3 ⟨rfl, hR3, hg3⟩; have HR3 := Lib.hid hR3; have HO3 := Lib.hid (HO2.out.keepB hg3 (own_ne HO2.out hg)); have HG3 := Lib.hid (grown_then HG2.out hg3); clear hR3 hg3; have hsz3 := HG3.out.size))
        clear HO HR HG HN2 HO2 HR2 HG2 z0 z1 z2
        go_loopw [9, 14] (fun tv iv wi => ∃ j : Nat, j ≤ min d (many - S.length) ∧ iv = .int .i64 j ∧ OwnV wi w.heap.size tv (S ++ List.replicate j ⟨ku, iu, bu, su⟩) ∧ Box wi w3.heap.size ⟨ku, iu, bu, su⟩ ∧ Rdr 116 wi g r5 ∧ w.grownBy wi (some g) ∧ w3.heap.size < wi.heap.size ∧ tv.ownBlock ≠ some w3.heap.size) (fun _ iv _ => d - (intOf iv).toNat)
        case atStart => exact ⟨0, Nat.zero_le _, rfl, by rw [List.replicate_zero, List.append_nil]; exact OwnV.alloc HO3.out _, Box.new w3 ⟨ku, iu, bu, su⟩, HR3.out.alloc _, grown_then HG3.out (World.grownBy_alloc _ _ _), by simp, own_lt HO3.out (Nat.le_refl _)⟩
        case round =>
          clear HO3 HR3 HG3
          obtain ⟨j, hj, rfl, hO, hX, hR, hgr, hlt3, hne3⟩ := hrel
          have hml : (S ++ List.replicate j (⟨ku, iu, bu, su⟩ : Val)).length = S.length + j := by rw [List.length_append, List.length_replicate]
          obtain ⟨A, c8, rfl, _, _⟩ := hO.form' (n := S.length + j) hml
          by_cases hjd : j < min d (many - S.length)
          · have hsn := rep_snoc S j (⟨ku, iu, bu, su⟩ : Val)
            have hfl : (S ++ List.replicate j (⟨ku, iu, bu, su⟩ : Val)).length < few := by rw [hml]; unfold few; omega
            have hj1 : j < d := by omega
            have hj2 : S.length + j < many := by omega
            obtain ⟨n1, hn1⟩ : ∃ n1, n1 = S.length + j := ⟨_, rfl⟩
            rw [← hn1] at hml hO hj2 hne3 ⊢
            clear hj hsl HRS HS HK hn1 hle hq hlt
            generalize S ++ List.replicate j (⟨ku, iu, bu, su⟩ : Val) = O at *
            have HSN := Lib.hid (And.intro hsn (And.intro hfl hjd)); clear hsn hfl hml hjd
            have HO := Lib.hid hO; clear hO
            have HR := Lib.hid hR; clear hR
            have HG := Lib.hid hgr; clear hgr
            obtain ⟨x0, x1, x2, x3⟩ := hX.cells
            simp only [] at x0 x1 x2 x3
            have HX := Lib.hid (And.intro hX hne3); clear hX hne3
            have hszi := HG.out.size
            go_wp2_with (at_builtin; (refine wpList_push_val rfl (.tmp 96) (.tmp 98) rfl w.heap.size (.slice A n1 c8) O ⟨ku, iu, bu, su⟩ wr.heap.size 1 rfl rfl (t := 38) (fr := (0, 0)) (heap_alloc_new wr (.cells #[.int .i64 ku, .int .i64 iu, .bool bu, .string su] 38)) (HO.out.alloc (.cells #[.int .i64 ku, .int .i64 iu, .bool bu, .string su] 38)) HSN.out.2.1 (by simp; omega) ?_; intro u2 wB hI2 hgB hatB))
            go_roundw
            case rel => exact ⟨j + 1, HSN.out.2.2, by go_num, by rw [HSN.out.1]; exact hI2, (HX.out.1.alloc _).grown hgB (fun e => HX.out.2 e.symm), (HR.out.alloc _).grown hgB (fun e => own_ne HO.out hg e.symm), grown_step (grown_then HG.out (World.grownBy_alloc _ _ _)) hgB (own_base HO.out), Nat.lt_of_lt_of_le (by simp; omega) hgB.size, fun e => by rcases hatB with h | h <;> rw [h] at e; exact HX.out.2 e; simp at e; omega⟩
            case measure => simp [intOf]; omega
          · have hje : j = min d (many - S.length) := by omega
            have hex : j = d ∨ (j < d ∧ ¬ S.length + j < many) := by omega
            rw [← hje] at HRS
            have HR5 := HRS.out
            have hO2 : OwnV wr w.heap.size (.slice A (S.length + j) c8) (runsR k many (q + 1) r2).1 := by rw [HR5]; exact hO
            have hR2 : Rdr 116 wr g (runsR k many (q + 1) r2).2 := by rw [HR5]; exact hR
            clear HR5 HRS hO hR hje hjd hj hml hX
            have HO := Lib.hid hO2; clear hO2
            have HR := Lib.hid hR2; clear hR2
            have HG := Lib.hid hgr; clear hgr
            rcases hex with rfl | ⟨hx1, hx2⟩
            · go_wp2
              go_roundw
              case rel => exact ⟨q + 1, by omega, by go_num, HO.out, HR.out, HG.out⟩
              case measure => simp [intOf]; omega
            · go_wp2
              go_roundw
              case rel => exact ⟨q + 1, by omega, by go_num, HO.out, HR.out, HG.out⟩
              case measure => simp [intOf]; omega
    · obtain rfl : q = c := by omega
      go_wp2
      go_ret
      exact ⟨_, rfl, hO, hR, hgr⟩
end Go.Proofs.Ytcfjagbdjnlfoaa.Vec

/-
  THE WALKS of the document's own taker: some, by words.
-/

namespace Go.Proofs.Ytcfjagbdjnlfoaa.Vec
open Go.RowKit ValMath Vals Sl VecMath Words

theorem places_snoc {ws : List Val} {xs : List Nat} {q x : Nat} (h : xs[q]? = some x) : (xs.take (q + 1)).map (fun a => ws.getD a nul) = (xs.take q).map (fun a => ws.getD a nul) ++ [ws.getD x nul] := iat_take h _
theorem places_lt {n : Nat} {xs : List Nat} {q x : Nat} (h : xs[q]? = some x) (hx : x < n) (hl : ∀ a ∈ xs.take q, a < n) : ∀ a ∈ xs.take (q + 1), a < n := by
  rw [Vals.take_more h]
  intro a ha
  rw [List.mem_append, List.mem_singleton] at ha
  rcases ha with ha | rfl
  · exact hl a ha
  · exact hx
theorem getD_of {ws : List Val} {x : Nat} {v : Val} (h : ws[x]? = some v) : ws.getD x nul = v := by rw [List.getD_eq_getElem?_getD, h]; rfl
set_option maxRecDepth 20000 in
set_option maxHeartbeats 8000000 in
theorem tsome2_any (k : Int) (g many : Nat) (r : Rd) (w : World) (hk : k = 1 ∨ k = 2 ∨ k = 3) (h : Rdr 116 w g r) (ok : OkR r) (hm : many ≤ 4096) :
    Calls Try.prog 67 #[.pointer (some ⟨g, 0, none⟩), .int .i64 2, .int .i64 k, .int .i64 (many : Nat)] w fun e w' => ∃ v, e = .returned v ∧ OwnV w' w.heap.size v (wordsR k many r).1 ∧ Rdr 116 w' g (wordsR k many r).2 ∧ w.grownBy w' (some g) := by
  have hg := h.lt
  have hN : ∀ w, Rdr 116 w g r → Calls Try.prog 65 #[.pointer (some ⟨g, 0, none⟩), .int .i64 4096] w fun e w' => e = .returned (.int .i64 ((rdNum 4096 r).1 : Nat)) ∧ Rdr 116 w' g (rdNum 4096 r).2 ∧ w.grownBy w' (some g) := fun w h => tnum_any g 4096 r w h ok
  have hle := rdNum_le 4096 r
  have ok2 := rdNum_okR (m := 4096) ok
  have hwp : wordsR k many r = placesR (readValsR k (rdNum 4096 r).1 (rdNum 4096 r).2).1 (rdPackedR many (width ((rdNum 4096 r).1 - 1)) (readValsR k (rdNum 4096 r).1 (rdNum 4096 r).2).2).1 (rdPackedR many (width ((rdNum 4096 r).1 - 1)) (readValsR k (rdNum 4096 r).1 (rdNum 4096 r).2).2).2 := rfl
  generalize rdNum 4096 r = X at *
  obtain ⟨c, r2⟩ := X
  simp only [] at hN hle ok2 hwp
  have HWP := Lib.hid hwp; clear hwp
  have HK := Lib.hid (And.intro hk ok2); clear hk ok ok2
  have HN := Lib.hid hN; clear hN
  have H := Lib.hid h; clear h
  go_enter Try.func67, Try.ntmps67
  go_wp2_with (go_at_call 65; (with_reducible refine (HN.out _ H.out).mono ?_); rintro e w1 ⟨rfl, hR, hgr⟩; have HR := Lib.hid hR; have HG := Lib.hid hgr; clear hR hgr)
  clear H HN
  go_loopw [16, 17] (fun tv iv wr => ∃ q : Nat, q ≤ c ∧ iv = .int .i64 q ∧ OwnV wr w.heap.size tv (readValsR k q r2).1 ∧ Rdr 116 wr g (readValsR k q r2).2 ∧ w.grownBy wr (some g)) (fun _ iv _ => c - (intOf iv).toNat)
  case atStart => exact ⟨0, Nat.zero_le _, rfl, OwnV.nil _ _, HR.out, HG.out⟩
  case round =>
    clear HR HG
    obtain ⟨q, hq, rfl, hO, hR, hgr⟩ := hrel
    have hml := readValsR_length k q r2
    obtain ⟨z0, z1, z2⟩ := hR.cells
    by_cases hlt : q < c
    · by_cases hbd : (readValsR k q r2).2.bad = true
      · have hst := readValsR_stop k hbd (c - q)
        rw [show q + (c - q) = c by omega] at hst
        rw [hbd] at z2
        rw [← hst] at hO hR
        clear hst hbd hml
        have HO := Lib.hid hO; clear hO
        have HR := Lib.hid hR; clear hR
        have HG := Lib.hid hgr; clear hgr
        have hO := HO.out
        have ok3 := readValsR_okR k c HK.out.2
        have hwl : width (c - 1) ≤ 16 := Nat.le_trans (width_le (by omega)) (by omega)
        have hwd := fun w => Bitpack.refWidth_any ((c : Int) - 1) w (by omega)
        rw [width_pred] at hwd
        have hw1 : IntKind.i64.wrap ((c : Int) - 1) = (c : Int) - 1 := IntWalk.i64_in _ (by omega)
        have hfi := readValsR_length k c r2
        clear HO
        generalize readValsR k c r2 = X at *
        obtain ⟨ws, r3⟩ := X
        simp only [] at hO HR ok3 hfi HWP
        have hP := fun w h => tpacked_any g many (width (c - 1)) r3 w h ok3 hm hwl
        have hxl := rdPackedR_len many (width (c - 1)) r3
        generalize rdPackedR many (width (c - 1)) r3 = Z at *
        obtain ⟨xs, r4⟩ := Z
        simp only [] at hP hxl HWP
        generalize width (c - 1) = wd at *
        have HP := Lib.hid hP; clear hP ok3 hwl
        have HWD := Lib.hid hwd; clear hwd
        obtain ⟨A16, c16, rfl, _, _⟩ := hO.form' (n := ws.length) rfl
        have HO := Lib.hid hO; clear hO
        clear HK
        go_wp2_with (first
          | (go_at_call 89; (with_reducible refine (HWD.out _).mono ?_); rintro e w2 ⟨rfl, rfl⟩)
          | (go_at_call 66; (with_reducible refine (HP.out _ HR.out).mono ?_); rintro e w3 ⟨v, rfl, hI, hR3, hg3⟩; obtain ⟨A18, c18, rfl, _, _, _⟩ := hI.form (n := xs.length) (iat_length xs); have HI := Lib.hid hI; have HR3 := Lib.hid hR3; have HO3 := Lib.hid (HO.out.keepB hg3 (own_ne HO.out hg)); have HG3 := Lib.hid (grown_then HG.out hg3); clear hI hR3 hg3))
        clear HO HR HG HP HWD hw1
        obtain ⟨s4, a4, b4⟩ := r4
        go_loopw [9, 19] (fun tv iv wr => ∃ q : Nat, q ≤ xs.length ∧ iv = .int .i64 q ∧ (b4 = true → q = 0) ∧ (∀ a ∈ xs.take q, a < ws.length) ∧ OwnV wr w3.heap.size tv ((xs.take q).map fun a => ws.getD a nul) ∧ Below w3.heap.size w3 wr) (fun _ iv _ => xs.length - (intOf iv).toNat)
        case atStart => exact ⟨0, Nat.zero_le _, rfl, fun _ => rfl, by simp, OwnV.nil _ _, Below.refl _ _⟩
        case round =>
          obtain ⟨q, hq, rfl, hq0, hal, hO, hb⟩ := hrel
          have hml : ((xs.take q).map fun a => ws.getD a nul).length = q := by rw [List.length_map, List.length_take]; omega
          obtain ⟨A9, c9, rfl, _, _⟩ := hO.form' (n := q) hml
          have hbs := hb.size
          have hR := HR3.out.below hb
          obtain ⟨z0, z1, z2⟩ := hR.cells
          have hgf := hR.free 2
          have hsz3 := HG3.out.size
          cases b4 with
          | true =>
            obtain rfl := hq0 rfl
            have hp := placesR_bad (ws := ws) (l := xs) (r := ⟨s4, a4, true⟩) rfl
            rw [hp] at HWP
            have HR := Lib.hid hR; clear hR
            have HO := Lib.hid hO; clear hO
            by_cases h0 : 0 < xs.length
            · go_wp2
              go_ret
              exact ⟨_, rfl, by rw [HWP.out]; exact own_le HO.out hsz3, by rw [HWP.out]; exact HR.out, grown_then HG3.out (World.grownBy.but (MapV.grown_of_below hb) _)⟩
            · go_wp2
              go_ret
              exact ⟨_, rfl, by rw [HWP.out]; exact own_le HO.out hsz3, by rw [HWP.out]; exact HR.out, grown_then HG3.out (World.grownBy.but (MapV.grown_of_below hb) _)⟩
          | false =>
            clear hq0
            by_cases hlt : q < xs.length
            · obtain ⟨b1, o1, y, hy, rfl, hb1, c0⟩ := ((HI.out.below hb).sl (iat_length xs)).at_ hlt
              obtain ⟨x, rfl, hx⟩ := iat_get hy
              clear hy
              by_cases hxw : ws.length ≤ x
              · have hp := placesR_stop (r := ⟨s4, a4, false⟩) rfl hal hx hxw
                rw [hp] at HWP
                have HR := Lib.hid hR; clear hR
                have HO := Lib.hid hO; clear hO
                go_wp2
                go_ret
                exact ⟨_, rfl, by rw [HWP.out]; exact own_set (own_le HO.out hsz3) hg, by rw [HWP.out]; exact HR.out.bad _, grown_then (grown_then HG3.out (World.grownBy.but (MapV.grown_of_below hb) _)) (grown_one _ _ _ _)⟩
              · obtain ⟨b2, o2, v, hv, rfl, hb2, e0, e1, e2, e3⟩ := ((HO3.out.below hb).sl rfl).at_ (k := x) (by omega)
                have hsn := places_snoc (ws := ws) hx
                rw [getD_of hv] at hsn
                have hal2 := places_lt hx (show x < ws.length by omega) hal
                have hfl : ((xs.take q).map fun a => ws.getD a nul).length < few := by rw [hml]; unfold few; omega
                have HX := Lib.hid (And.intro hsn (And.intro hfl hal2)); clear hsn hfl hal2 hal hv hx hml
                have HR := Lib.hid hR; clear hR
                have HO := Lib.hid hO; clear hO
                generalize ((xs.take q).map fun a => ws.getD a nul) = O at *
                obtain ⟨kv, iv, bv, sv⟩ := v
                simp only [] at e0 e1 e2 e3
                go_wp2_with (at_builtin; (refine wpList_push_val rfl (.tmp 151) (.tmp 159) rfl w3.heap.size (.slice A9 q c9) O ⟨kv, iv, bv, sv⟩ wr.heap.size 1 rfl rfl (t := 38) (fr := (0, 0)) (heap_alloc_new wr (.cells #[.int .i64 kv, .int .i64 iv, .bool bv, .string sv] 38)) (HO.out.alloc (.cells #[.int .i64 kv, .int .i64 iv, .bool bv, .string sv] 38)) HX.out.2.1 (by simp; omega) ?_; intro u wA hA hgA hatA; have HA := Lib.hid hA; clear hA))
                go_roundw
                case rel => exact ⟨q + 1, by omega, by go_num, (fun h => by cases h), HX.out.2.2, by rw [HX.out.1]; exact HA.out, (hb.alloc hb.size _).grown hgA (by simp; omega) (own_base HO.out)⟩
                case measure => simp [intOf]; omega
            · obtain rfl : q = xs.length := by omega
              rw [List.take_of_length_le (Nat.le_refl _)] at hal hO
              have hp := placesR_ok hal (r := ⟨s4, a4, false⟩) rfl
              rw [hp] at HWP
              have HR := Lib.hid hR; clear hR
              have HO := Lib.hid hO; clear hO
              go_wp2
              go_ret
              exact ⟨_, rfl, by rw [HWP.out]; exact own_le HO.out hsz3, by rw [HWP.out]; exact HR.out, grown_then HG3.out (World.grownBy.but (MapV.grown_of_below hb) _)⟩
      · have hbf : (readValsR k q r2).2.bad = false := by simpa using hbd
        have hrs : readValsR k (q + 1) r2 = ((readValsR k q r2).1 ++ [(rdVal k (readValsR k q r2).2).1], (rdVal k (readValsR k q r2).2).2) := by
          simp only [readValsR]; rw [if_neg hbd]
        have hS := fun w h => tvalue_any k g (readValsR k q r2).2 w HK.out.1 h (readValsR_okR k q HK.out.2)
        have hfl : (readValsR k q r2).1.length < few := by unfold few; omega
        rw [hbf] at z2
        clear hbd hbf
        obtain ⟨A16, c16, rfl, _, _⟩ := hO.form' (n := (readValsR k q r2).1.length) rfl
        generalize readValsR k q r2 = X at *
        obtain ⟨O, r3⟩ := X
        simp only [] at hrs hS hO hR hml hfl z0 z1 z2
        generalize rdVal k r3 = Y at *
        obtain ⟨⟨ku, iu, bu, su⟩, r4⟩ := Y
        simp only [vagg] at hrs hS
        have HS := Lib.hid hS; clear hS
        have HRS := Lib.hid (And.intro hrs hfl); clear hrs hfl
        have HO := Lib.hid hO; clear hO
        have HR := Lib.hid hR; clear hR
        have HG := Lib.hid hgr; clear hgr
        have hsz := HG.out.size
        clear HWP
        go_wp2_with (first
          | (go_at_call 98; (with_reducible refine (HS.out _ HR.out).mono ?_); rintro e w1 ⟨rfl, hR1, hg1⟩; have HR1 := Lib.hid hR1; have HO1 := Lib.hid (HO.out.keepB hg1 (own_ne HO.out hg)); have HG1 := Lib.hid (grown_then HG.out hg1); clear hR1 hg1; have hsz1 := HG1.out.size)
          | (at_builtin; (refine wpList_push_val rfl (.tmp 116) (.tmp 120) rfl w.heap.size (.slice A16 O.length c16) O ⟨ku, iu, bu, su⟩ w1.heap.size 1 rfl rfl (t := 38) (fr := (0, 0)) (heap_alloc_new w1 (.cells #[.int .i64 ku, .int .i64 iu, .bool bu, .string su] 38)) (HO1.out.alloc (.cells #[.int .i64 ku, .int .i64 iu, .bool bu, .string su] 38)) HRS.out.2 (by simp; omega) ?_; intro u2 wB hI2 hgB hatB)))
        go_roundw
        case rel => exact ⟨q + 1, by omega, by go_num, by rw [HRS.out.1]; exact hI2, by rw [HRS.out.1]; exact (HR1.out.alloc _).grown hgB (fun e => own_ne HO1.out hg e.symm), grown_step (grown_then HG1.out (World.grownBy_alloc _ _ _)) hgB (own_base HO1.out)⟩
        case measure => simp [intOf]; omega
    · obtain rfl : c = q := by omega
      clear hml
      have HO := Lib.hid hO; clear hO
      have HR := Lib.hid hR; clear hR
      have HG := Lib.hid hgr; clear hgr
      have hO := HO.out
      have ok3 := readValsR_okR k c HK.out.2
      have hwl : width (c - 1) ≤ 16 := Nat.le_trans (width_le (by omega)) (by omega)
      have hwd := fun w => Bitpack.refWidth_any ((c : Int) - 1) w (by omega)
      rw [width_pred] at hwd
      have hw1 : IntKind.i64.wrap ((c : Int) - 1) = (c : Int) - 1 := IntWalk.i64_in _ (by omega)
      have hfi := readValsR_length k c r2
      clear HO
      generalize readValsR k c r2 = X at *
      obtain ⟨ws, r3⟩ := X
      simp only [] at hO HR ok3 hfi HWP
      have hP := fun w h => tpacked_any g many (width (c - 1)) r3 w h ok3 hm hwl
      have hxl := rdPackedR_len many (width (c - 1)) r3
      generalize rdPackedR many (width (c - 1)) r3 = Z at *
      obtain ⟨xs, r4⟩ := Z
      simp only [] at hP hxl HWP
      generalize width (c - 1) = wd at *
      have HP := Lib.hid hP; clear hP ok3 hwl
      have HWD := Lib.hid hwd; clear hwd
      obtain ⟨A16, c16, rfl, _, _⟩ := hO.form' (n := ws.length) rfl
      have HO := Lib.hid hO; clear hO
      clear HK
      go_wp2_with (first
        | (go_at_call 89; (with_reducible refine (HWD.out _).mono ?_); rintro e w2 ⟨rfl, rfl⟩)
        | (go_at_call 66; (with_reducible refine (HP.out _ HR.out).mono ?_); rintro e w3 ⟨v, rfl, hI, hR3, hg3⟩; obtain ⟨A18, c18, rfl, _, _, _⟩ := hI.form (n := xs.length) (iat_length xs); have HI := Lib.hid hI; have HR3 := Lib.hid hR3; have HO3 := Lib.hid (HO.out.keepB hg3 (own_ne HO.out hg)); have HG3 := Lib.hid (grown_then HG.out hg3); clear hI hR3 hg3))
      clear HO HR HG HP HWD hw1
      obtain ⟨s4, a4, b4⟩ := r4
      go_loopw [9, 19] (fun tv iv wr => ∃ q : Nat, q ≤ xs.length ∧ iv = .int .i64 q ∧ (b4 = true → q = 0) ∧ (∀ a ∈ xs.take q, a < ws.length) ∧ OwnV wr w3.heap.size tv ((xs.take q).map fun a => ws.getD a nul) ∧ Below w3.heap.size w3 wr) (fun _ iv _ => xs.length - (intOf iv).toNat)
      case atStart => exact ⟨0, Nat.zero_le _, rfl, fun _ => rfl, by simp, OwnV.nil _ _, Below.refl _ _⟩
      case round =>
        obtain ⟨q, hq, rfl, hq0, hal, hO, hb⟩ := hrel
        have hml : ((xs.take q).map fun a => ws.getD a nul).length = q := by rw [List.length_map, List.length_take]; omega
        obtain ⟨A9, c9, rfl, _, _⟩ := hO.form' (n := q) hml
        have hbs := hb.size
        have hR := HR3.out.below hb
        obtain ⟨z0, z1, z2⟩ := hR.cells
        have hgf := hR.free 2
        have hsz3 := HG3.out.size
        cases b4 with
        | true =>
          obtain rfl := hq0 rfl
          have hp := placesR_bad (ws := ws) (l := xs) (r := ⟨s4, a4, true⟩) rfl
          rw [hp] at HWP
          have HR := Lib.hid hR; clear hR
          have HO := Lib.hid hO; clear hO
          by_cases h0 : 0 < xs.length
          · go_wp2
            go_ret
            exact ⟨_, rfl, by rw [HWP.out]; exact own_le HO.out hsz3, by rw [HWP.out]; exact HR.out, grown_then HG3.out (World.grownBy.but (MapV.grown_of_below hb) _)⟩
          · go_wp2
            go_ret
            exact ⟨_, rfl, by rw [HWP.out]; exact own_le HO.out hsz3, by rw [HWP.out]; exact HR.out, grown_then HG3.out (World.grownBy.but (MapV.grown_of_below hb) _)⟩
        | false =>
          clear hq0
          by_cases hlt : q < xs.length
          · obtain ⟨b1, o1, y, hy, rfl, hb1, c0⟩ := ((HI.out.below hb).sl (iat_length xs)).at_ hlt
            obtain ⟨x, rfl, hx⟩ := iat_get hy
            clear hy
            by_cases hxw : ws.length ≤ x
            · have hp := placesR_stop (r := ⟨s4, a4, false⟩) rfl hal hx hxw
              rw [hp] at HWP
              have HR := Lib.hid hR; clear hR
              have HO := Lib.hid hO; clear hO
              go_wp2
              go_ret
              exact ⟨_, rfl, by rw [HWP.out]; exact own_set (own_le HO.out hsz3) hg, by rw [HWP.out]; exact HR.out.bad _, grown_then (grown_then HG3.out (World.grownBy.but (MapV.grown_of_below hb) _)) (grown_one _ _ _ _)⟩
            · obtain ⟨b2, o2, v, hv, rfl, hb2, e0, e1, e2, e3⟩ := ((HO3.out.below hb).sl rfl).at_ (k := x) (by omega)
              have hsn := places_snoc (ws := ws) hx
              rw [getD_of hv] at hsn
              have hal2 := places_lt hx (show x < ws.length by omega) hal
              have hfl : ((xs.take q).map fun a => ws.getD a nul).length < few := by rw [hml]; unfold few; omega
              have HX := Lib.hid (And.intro hsn (And.intro hfl hal2)); clear hsn hfl hal2 hal hv hx hml
              have HR := Lib.hid hR; clear hR
              have HO := Lib.hid hO; clear hO
              generalize ((xs.take q).map fun a => ws.getD a nul) = O at *
              obtain ⟨kv, iv, bv, sv⟩ := v
              simp only [] at e0 e1 e2 e3
              go_wp2_with (at_builtin; (refine wpList_push_val rfl (.tmp 151) (.tmp 159) rfl w3.heap.size (.slice A9 q c9) O ⟨kv, iv, bv, sv⟩ wr.heap.size 1 rfl rfl (t := 38) (fr := (0, 0)) (heap_alloc_new wr (.cells #[.int .i64 kv, .int .i64 iv, .bool bv, .string sv] 38)) (HO.out.alloc (.cells #[.int .i64 kv, .int .i64 iv, .bool bv, .string sv] 38)) HX.out.2.1 (by simp; omega) ?_; intro u wA hA hgA hatA; have HA := Lib.hid hA; clear hA))
              go_roundw
              case rel => exact ⟨q + 1, by omega, by go_num, (fun h => by cases h), HX.out.2.2, by rw [HX.out.1]; exact HA.out, (hb.alloc hb.size _).grown hgA (by simp; omega) (own_base HO.out)⟩
              case measure => simp [intOf]; omega
          · obtain rfl : q = xs.length := by omega
            rw [List.take_of_length_le (Nat.le_refl _)] at hal hO
            have hp := placesR_ok hal (r := ⟨s4, a4, false⟩) rfl
            rw [hp] at HWP
            have HR := Lib.hid hR; clear hR
            have HO := Lib.hid hO; clear hO
            go_wp2
            go_ret
            exact ⟨_, rfl, by rw [HWP.out]; exact own_le HO.out hsz3, by rw [HWP.out]; exact HR.out, grown_then HG3.out (World.grownBy.but (MapV.grown_of_below hb) _)⟩
end Go.Proofs.Ytcfjagbdjnlfoaa.Vec

/-
  THE WALKS of the document's own taker: some; what it gives.
-/


namespace Go.Proofs.Ytcfjagbdjnlfoaa.Vec
open Go.RowKit ValMath Vals Sl VecMath Words

theorem tsome_any (k : Int) (g enc many : Nat) (r : Rd) (w : World) (hk : k = 1 ∨ k = 2 ∨ k = 3) (h : Rdr 116 w g r) (ok : OkR r) (hm : many ≤ 4096) :
    Calls Try.prog 67 #[.pointer (some ⟨g, 0, none⟩), .int .i64 (enc : Nat), .int .i64 k, .int .i64 (many : Nat)] w fun e w' => ∃ v, e = .returned v ∧ OwnV w' w.heap.size v (someR k enc many r).1 ∧ Rdr 116 w' g (someR k enc many r).2 ∧ w.grownBy w' (some g) := by
  unfold someR
  by_cases h1 : enc = 1
  · subst h1; rw [if_pos rfl]; exact tsome1_any k g many r w hk h ok hm
  · rw [if_neg h1]
    by_cases h2 : enc = 2
    · subst h2; rw [if_pos rfl]; exact tsome2_any k g many r w hk h ok hm
    · rw [if_neg h2]
      by_cases h3 : k = 2
      · subst h3; rw [if_pos rfl]; exact tsomeB_any g enc many r w h1 h2 h ok hm
      · rw [if_neg h3]; exact tsome0_any k g enc many r w h1 h2 (by omega) h ok hm
theorem placesR_fine {ws : List Val} (h : ∀ v ∈ ws, Fine v) (l : List Nat) (r : Rd) : ∀ v ∈ (placesR ws l r).1, Fine v := by
  induction l with
  | nil => intro v hv; simp [placesR] at hv
  | cons a l ih =>
    simp only [placesR]
    split
    · intro v hv; simp at hv
    · split
      · intro v hv; simp at hv
      · intro v hv
        simp only [List.mem_cons] at hv
        rcases hv with rfl | hv
        · exact getD_fine h a
        · exact ih v hv
theorem bools_fine (xs : List Nat) : ∀ v ∈ xs.map (fun x => (⟨2, 0, decide (x = 1), ByteArray.empty⟩ : Val)), Fine v := by
  intro v hv
  simp only [List.mem_map] at hv
  obtain ⟨x, _, rfl⟩ := hv
  exact fine_bool _
theorem someR_fine {k : Int} (hk : k = 1 ∨ k = 2 ∨ k = 3) (e many : Nat) (r : Rd) : ∀ v ∈ (someR k e many r).1, Fine v := by
  unfold someR
  split
  · exact runsR_fine hk many _ _
  · split
    · exact placesR_fine (readValsR_fine hk _ _) _ _
    · split
      · exact bools_fine _
      · exact readValsR_fine hk many r
theorem rdPackedR_lt (m w : Nat) (r : Rd) : ∀ x ∈ (rdPackedR m w r).1, x < 2 ^ w := by
  unfold rdPackedR
  split
  · intro x hx; simp at hx
  · exact rdPackedP_lt m w r
end Go.Proofs.Ytcfjagbdjnlfoaa.Vec

/-
  THE WALK of vec.Get.
-/



namespace Go.Proofs.Ytcfjagbdjnlfoaa.Vec
open Go.RowKit ValMath Vals Sl VecMath Words

def gvals (k : Int) (s : ByteArray) : List Val := (unvec decP k s.data.toList).1
def gcode (k : Int) (s : ByteArray) : Int := ((unvec decP k s.data.toList).2 : Nat)
theorem get_kind {k : Int} (s : ByteArray) (h : ¬ (1 ≤ k ∧ k ≤ 3)) : gvals k s = [] ∧ gcode k s = 900 := by
  unfold gvals gcode unvec; rw [if_pos (by omega)]; exact ⟨rfl, rfl⟩
theorem get_sum {k : Int} {s : ByteArray} (h : 1 ≤ k ∧ k ≤ 3) (ho : CrcMath.open_ s.data.toList = none) : gvals k s = [] ∧ gcode k s = 902 := by
  unfold gvals gcode unvec; rw [if_neg (by omega), ho]; exact ⟨rfl, rfl⟩
theorem get_form {k : Int} {s : ByteArray} {b : List UInt8} (h : 1 ≤ k ∧ k ≤ 3) (ho : CrcMath.open_ s.data.toList = some b) (hd : decP k b = none) : gvals k s = [] ∧ gcode k s = 901 := by
  unfold gvals gcode unvec; rw [if_neg (by omega), ho]; simp only [hd]; exact ⟨trivial, rfl⟩
theorem get_worse {k : Int} {s : ByteArray} {b : List UInt8} {vs : List Val} (h : 1 ≤ k ∧ k ≤ 3) (ho : CrcMath.open_ s.data.toList = some b) (hd : decP k b = some vs) (hn : ¬ (mayErr k vs = 0 ∧ put k vs = s.data.toList)) : gvals k s = [] ∧ gcode k s = 901 := by
  unfold gvals gcode unvec; rw [if_neg (by omega), ho]; simp only [hd]; rw [if_neg hn]; exact ⟨rfl, rfl⟩
theorem get_good {k : Int} {s : ByteArray} {b : List UInt8} {vs : List Val} (h : 1 ≤ k ∧ k ≤ 3) (ho : CrcMath.open_ s.data.toList = some b) (hd : decP k b = some vs) (hn : mayErr k vs = 0 ∧ put k vs = s.data.toList) : gvals k s = vs ∧ gcode k s = 0 := by
  unfold gvals gcode unvec; rw [if_neg (by omega), ho]; simp only [hd]; rw [if_pos hn]; exact ⟨rfl, rfl⟩
theorem open_len {l b : List UInt8} (h : CrcMath.open_ l = some b) : b.length ≤ l.length := by
  unfold CrcMath.open_ at h
  split at h
  · cases h
  · split at h
    · injection h with h; subst h; rw [List.length_take]; omega
    · cases h

theorem _root_.Go.Proofs.Ytcfjagbdjnlfoaa.Vals.VSl.tail {w : World} {b o m : Nat} {L : List Val} (h : VSl w (some ⟨b, o, none⟩) m L) (hm : 0 < m) : VSl w (some ⟨b, o + 4, none⟩) (m - 1) (L.drop 1) := by
  refine ⟨by rw [List.length_drop, h.1], fun hm2 => ?_⟩
  obtain ⟨b', o', e, hlt, hc⟩ := h.2 hm
  injection e with e; injection e with e1 e2; subst e1; subst e2
  refine ⟨b, o + 4, rfl, hlt, fun i hi => ?_⟩
  rw [List.length_drop] at hi
  have := hc (i + 1) (by omega)
  rw [show o + (i + 1) * 4 = o + 4 + i * 4 by omega] at this
  simpa [List.getElem_drop, Nat.add_comm] using this
theorem _root_.Go.Proofs.Ytcfjagbdjnlfoaa.Vals.VSl.tail2 {w : World} {b o m c : Nat} {L : List Val} (h : VSl w (some ⟨b, o, none⟩) m L) (hm : 0 < m) (hc : m ≤ c) : VSl w (if c = 1 then some ⟨b, o, none⟩ else some ⟨b, o + 4, none⟩) (m - 1) (L.drop 1) := by
  by_cases h1 : c = 1
  · rw [if_pos h1]
    exact ⟨by rw [List.length_drop, h.1], fun h2 => by omega⟩
  · rw [if_neg h1]; exact h.tail hm
theorem str_ne {l : List UInt8} {s : ByteArray} (h : l ≠ s.data.toList) : ((str l).toList == s.toList) = false := by
  rw [Lib.toList_data, Lib.toList_data, str_list]; simpa using h
set_option maxRecDepth 20000 in
set_option maxHeartbeats 8000000 in
theorem get_any (k : Int) (s : ByteArray) (w : World) (hs : s.size ≤ maxReach) :
    Calls Try.prog 29 #[.int .i64 k, .string s] w fun e w' => ∃ u, e = .returned (.tuple #[u, .int .i64 (gcode k s)]) ∧ OwnV w' w.heap.size u (gvals k s) ∧ Below w.heap.size w w' := by
  have hK := kind_any k
  by_cases h1 : 1 ≤ k ∧ k ≤ 3
  · rw [decide_eq_true h1] at hK
    have hO := fun w => Crc.open_any s w hs
    cases ho : CrcMath.open_ s.data.toList with
    | none =>
      have hg := get_sum h1 ho
      have hc : Crc.code s.data.toList = 400 := by unfold Crc.code; rw [ho]; rfl
      rw [hc] at hO
      have HK := Lib.hid hK; clear hK
      have HO := Lib.hid hO; clear hO
      have HG := Lib.hid hg; clear hg hc ho h1
      go_enter Try.func29, Try.ntmps29
      go_wp2_with (first
        | (go_at_call 61; (with_reducible refine (HK.out _).mono ?_); rintro e w1 ⟨rfl, rfl⟩)
        | (go_at_call 42; (with_reducible refine (HO.out _).mono ?_); rintro e w2 ⟨rfl, hb2⟩))
      go_ret2
      exact ⟨_, ret_vi HG.out.2.symm, by rw [HG.out.1]; exact OwnV.nil _ _, hb2⟩
    | some b =>
      have hc : Crc.code s.data.toList = 0 := by unfold Crc.code; rw [ho]; rfl
      have hop : Crc.opened s.data.toList = b := by unfold Crc.opened; rw [ho]; rfl
      rw [hc, hop] at hO
      clear hc hop
      have hbl := open_len ho
      have ok0 : OkR ⟨b, 0, false⟩ := ⟨Nat.zero_le _, by show b.length ≤ maxReach; have : s.data.toList.length = s.size := by simp
                                                         omega⟩
      have hk3 : k = 1 ∨ k = 2 ∨ k = 3 := by omega
      have hdp : decP k b = (if (someP k (rdByte ⟨b, 0, false⟩).1 (left (rdPackedP (rdNum 4096 (rdByte ⟨b, 0, false⟩).2).1 1 (rdNum 4096 (rdByte ⟨b, 0, false⟩).2).2).1) (rdPackedP (rdNum 4096 (rdByte ⟨b, 0, false⟩).2).1 1 (rdNum 4096 (rdByte ⟨b, 0, false⟩).2).2).2).2.bad = true ∨
          (rdPackedP (rdNum 4096 (rdByte ⟨b, 0, false⟩).2).1 1 (rdNum 4096 (rdByte ⟨b, 0, false⟩).2).2).1.length ≠ (rdNum 4096 (rdByte ⟨b, 0, false⟩).2).1 ∨
          (someP k (rdByte ⟨b, 0, false⟩).1 (left (rdPackedP (rdNum 4096 (rdByte ⟨b, 0, false⟩).2).1 1 (rdNum 4096 (rdByte ⟨b, 0, false⟩).2).2).1) (rdPackedP (rdNum 4096 (rdByte ⟨b, 0, false⟩).2).1 1 (rdNum 4096 (rdByte ⟨b, 0, false⟩).2).2).2).1.length ≠ left (rdPackedP (rdNum 4096 (rdByte ⟨b, 0, false⟩).2).1 1 (rdNum 4096 (rdByte ⟨b, 0, false⟩).2).2).1 then none else
          some (weave (rdPackedP (rdNum 4096 (rdByte ⟨b, 0, false⟩).2).1 1 (rdNum 4096 (rdByte ⟨b, 0, false⟩).2).2).1 (someP k (rdByte ⟨b, 0, false⟩).1 (left (rdPackedP (rdNum 4096 (rdByte ⟨b, 0, false⟩).2).1 1 (rdNum 4096 (rdByte ⟨b, 0, false⟩).2).2).1) (rdPackedP (rdNum 4096 (rdByte ⟨b, 0, false⟩).2).1 1 (rdNum 4096 (rdByte ⟨b, 0, false⟩).2).2).2).1)) := rfl
      have hB := fun g w h => byte_any g ⟨b, 0, false⟩ w h ok0
      have ok1 := rdByte_okR ok0
      generalize rdByte ⟨b, 0, false⟩ = X at *
      obtain ⟨e, r1⟩ := X
      simp only [] at hdp hB ok1
      have hN : ∀ g w, Rdr 93 w g r1 → Calls Try.prog 44 #[.pointer (some ⟨g, 0, none⟩), .int .i64 4096] w fun e w' => e = .returned (.int .i64 ((rdNum 4096 r1).1 : Nat)) ∧ Rdr 93 w' g (rdNum 4096 r1).2 ∧ w.grownBy w' (some g) := fun g w h => num_any g 4096 r1 w h ok1
      have hle := rdNum_le 4096 r1
      have ok2 := rdNum_okR (m := 4096) ok1
      generalize rdNum 4096 r1 = X at *
      obtain ⟨many, r2⟩ := X
      simp only [] at hdp hN hle ok2
      have hP : ∀ g w, Rdr 93 w g r2 → Calls Try.prog 62 #[.pointer (some ⟨g, 0, none⟩), .int .i64 (many : Nat), .int .i64 1] w fun e w' => ∃ v, e = .returned v ∧ OwnI w' w.heap.size v (iat (rdPackedP many 1 r2).1) ∧ Rdr 93 w' g (rdPackedP many 1 r2).2 ∧ w.grownBy w' (some g) := fun g w h => packed_any g many 1 r2 w h ok2 hle (by omega)
      have hxl := rdPackedP_len many 1 r2
      have hxb := rdPackedP_lt many 1 r2
      have ok3 := rdPackedP_okR (m := many) (w := 1) ok2
      generalize rdPackedP many 1 r2 = X at *
      obtain ⟨ns, r3⟩ := X
      simp only [] at hdp hP hxl hxb ok3
      have hS := fun g w h => some_any k g e (left ns) r3 w hk3 h ok3 (by have := left_le ns; omega)
      have hsf := someP_fine hk3 e (left ns) r3
      have hll := left_le ns
      generalize someP k e (left ns) r3 = X at *
      obtain ⟨vs, r4⟩ := X
      simp only [] at hdp hS hsf
      have HK := Lib.hid hK; clear hK
      have HO := Lib.hid hO; clear hO
      have HB := Lib.hid hB; clear hB
      have HN := Lib.hid hN; clear hN
      have HP := Lib.hid hP; clear hP
      have HS := Lib.hid hS; clear hS
      have HD := Lib.hid (And.intro h1 (And.intro ho (And.intro hdp hsf))); clear h1 ho hdp hsf ok0 ok1 ok2 ok3 hk3 hbl
      go_enter Try.func29, Try.ntmps29
      go_wp2_with (first
        | (go_at_call 61; (with_reducible refine (HK.out _).mono ?_); rintro e1 w1 ⟨rfl, rfl⟩)
        | (go_at_call 42; (with_reducible refine (HO.out _).mono ?_); rintro e2 w2 ⟨rfl, hb2⟩; have hR0 : Rdr 93 (w2.alloc (.cells #[.string (str b), .int .i64 0, .bool false] 93)) w2.heap.size ⟨b, 0, false⟩ := heap_alloc_new w2 _; have HR0 := Lib.hid hR0; clear hR0)
        | (go_at_call 45; (with_reducible refine (HB.out _ _ HR0.out).mono ?_); rintro e3 w3 ⟨rfl, hR, hg3⟩; have HR3 := Lib.hid hR; clear hR)
        | (go_at_call 44; (with_reducible refine (HN.out _ _ HR3.out).mono ?_); rintro e4 w4 ⟨rfl, hR, hg4⟩; have HR4 := Lib.hid hR; clear hR)
        | (go_at_call 62; (with_reducible refine (HP.out _ _ HR4.out).mono ?_); rintro e5 w5 ⟨v, rfl, hI, hR, hg5⟩; obtain ⟨A11, c11, rfl, _, _, _⟩ := hI.form (n := ns.length) (iat_length ns); have HI := Lib.hid hI; have HR5 := Lib.hid hR; clear hI hR))
      have hbt5 := (((hb2.alloc hb2.size (.cells #[.string (str b), .int .i64 0, .bool false] 93)).grown hg3 (Below.size (hb2.alloc hb2.size (.cells #[.string (str b), .int .i64 0, .bool false] 93))) (fun j hj => by cases hj; exact hb2.size)))
      have hbt6 := hbt5.grown hg4 hbt5.size (fun j hj => by cases hj; exact hb2.size)
      have hbt7 := hbt6.grown hg5 hbt6.size (fun j hj => by cases hj; exact hb2.size)
      have HBT := Lib.hid hbt7; clear hbt5 hbt6 hbt7
      have hz4 : w2.heap.size < w4.heap.size := by have h3 := hg3.size; have h4 := hg4.size; simp at h3; omega
      have hz2 := hb2.size
      clear hg3 hg4 hg5 HR0 HR3 HR4 HK HO HB HN HP
      go_loopw [12, 43] (fun nv iv wr => ∃ q : Nat, q ≤ ns.length ∧ iv = .int .i64 q ∧ nv = .int .i64 (left (ns.take q) : Nat) ∧ Below w5.heap.size w5 wr) (fun _ iv _ => ns.length - (intOf iv).toNat)
      case atStart => exact ⟨0, Nat.zero_le _, rfl, rfl, Below.refl _ _⟩
      case round =>
        obtain ⟨q, hq, rfl, rfl, hb⟩ := hrel
        have hI := HI.out.below hb
        by_cases hlt : q < ns.length
        · obtain ⟨b1, o1, y, hy, rfl, hb1, c0⟩ := (hI.sl (iat_length ns)).at_ hlt
          obtain ⟨x, rfl, hx⟩ := iat_get hy
          have hts := Vals.take_more hx
          have hls := left_snoc (ns.take q) x
          rw [← hts] at hls
          have hx2 := hxb x (List.mem_of_getElem? hx)
          have hlq := left_le (ns.take q)
          rw [List.length_take] at hlq
          clear hI HD HS HI HR5 HBT hts hx hy
          by_cases hx1 : x = 1
          · subst hx1
            rw [if_pos rfl] at hls
            have HL := Lib.hid hls; clear hls
            generalize left (ns.take q) = l0 at *
            have hw1 : IntKind.i64.wrap (l0 : Int) = (l0 : Int) := IntWalk.i64_in _ (by omega)
            go_wp2
            go_roundw
            case rel => exact ⟨q + 1, by omega, by go_num, by rw [HL.out]; rfl, hb⟩
            case measure => simp [intOf]; omega
          · obtain rfl : x = 0 := by omega
            rw [if_neg hx1] at hls
            have HL := Lib.hid hls; clear hls hx1
            generalize left (ns.take q) = l0 at *
            have hw1 : IntKind.i64.wrap ((l0 : Int) + 1) = ((l0 + 1 : Nat) : Int) := by rw [IntWalk.i64_in _ (by omega)]; push_cast; rfl
            go_wp2
            go_roundw
            case rel => exact ⟨q + 1, by omega, by go_num, by rw [HL.out]; push_cast; rfl, hb⟩
            case measure => simp [intOf]; omega
        · obtain rfl : q = ns.length := by omega
          rw [List.take_of_length_le (Nat.le_refl _)]
          have HI := Lib.hid hI; clear hI
          have HR := Lib.hid (HR5.out.below hb)
          replace HBT := Lib.hid (bthen HBT.out hb (Nat.le_refl _))
          have hzr := hb.size
          clear HR5
          obtain ⟨wv, rfl⟩ : ∃ wv : World, wv = wr := ⟨_, rfl⟩
          obtain ⟨s4, a4, b4⟩ := r4
          by_cases hgd : b4 = true ∨ ns.length ≠ many ∨ vs.length ≠ left ns
          · have hdp := HD.out.2.2.1
            rw [if_pos hgd] at hdp
            have hg := get_form HD.out.1 HD.out.2.1 hdp
            have HG := Lib.hid hg; clear hg hdp HD hxb
            cases b4 with
            | true =>
              go_wp2_with (go_at_call 63; (with_reducible refine (HS.out _ _ HR.out).mono ?_); rintro e6 w6 ⟨v, rfl, hV, hR, hg6⟩; obtain ⟨A15, c15, rfl, _, _⟩ := hV.form' (n := vs.length) rfl; have z2 := hR.cells.2.2; have HV := Lib.hid hV; clear hV hR)
              go_ret2
              exact ⟨_, ret_vi HG.out.2.symm, by rw [HG.out.1]; exact OwnV.nil _ _, HBT.out.grown hg6 HBT.out.size (fun j hj => by cases hj; exact hz2)⟩
            | false =>
              by_cases hd1 : ns.length = many
              · have hd2 : ((((vs.length : Nat) : Int)) != ((left ns : Nat) : Int)) = true := by simp; simp [hd1] at hgd; omega
                clear hgd
                go_wp2_with (go_at_call 63; (with_reducible refine (HS.out _ _ HR.out).mono ?_); rintro e6 w6 ⟨v, rfl, hV, hR, hg6⟩; obtain ⟨A15, c15, rfl, _, _⟩ := hV.form' (n := vs.length) rfl; have z2 := hR.cells.2.2; have HV := Lib.hid hV; clear hV hR)
                go_ret2
                exact ⟨_, ret_vi HG.out.2.symm, by rw [HG.out.1]; exact OwnV.nil _ _, HBT.out.grown hg6 HBT.out.size (fun j hj => by cases hj; exact hz2)⟩
              · have hd2 : ((((ns.length : Nat) : Int)) != ((many : Nat) : Int)) = true := by simp; omega
                clear hgd
                go_wp2_with (go_at_call 63; (with_reducible refine (HS.out _ _ HR.out).mono ?_); rintro e6 w6 ⟨v, rfl, hV, hR, hg6⟩; obtain ⟨A15, c15, rfl, _, _⟩ := hV.form' (n := vs.length) rfl; have z2 := hR.cells.2.2; have HV := Lib.hid hV; clear hV hR)
                go_ret2
                exact ⟨_, ret_vi HG.out.2.symm, by rw [HG.out.1]; exact OwnV.nil _ _, HBT.out.grown hg6 HBT.out.size (fun j hj => by cases hj; exact hz2)⟩
          · have hb4 : b4 = false := by cases b4 <;> simp at hgd ⊢
            subst hb4
            have hnm : ns.length = many := by
              by_cases h : ns.length = many
              · exact h
              · exact absurd (.inr (.inl h)) hgd
            have hvl : vs.length = left ns := by
              by_cases h : vs.length = left ns
              · exact h
              · exact absurd (.inr (.inr h)) hgd
            have hdp := HD.out.2.2.1
            rw [if_neg hgd] at hdp
            have hgb := fun h => get_worse HD.out.1 HD.out.2.1 hdp h
            have hgg := fun h => get_good HD.out.1 HD.out.2.1 hdp h
            have hfw := weave_fine ns vs HD.out.2.2.2
            have HD2 := Lib.hid (And.intro hgb (And.intro hgg hfw)); clear hgb hgg hfw hdp HD hgd
            subst hnm
            have d1 : ((((vs.length : Nat) : Int)) != ((left ns : Nat) : Int)) = false := by simp; omega
            have HVL := Lib.hid hvl; clear hvl
            go_wp2_with (go_at_call 63; (with_reducible refine (HS.out _ _ HR.out).mono ?_); rintro e6 w6 ⟨v, rfl, hV, hR, hg6⟩; obtain ⟨A15, c15, rfl, _, _⟩ := hV.form' (n := vs.length) rfl; have z2 := hR.cells.2.2; have HV := Lib.hid hV; clear hV hR)
            clear d1 z2
            have HI6 := Lib.hid (HI.out.keepB hg6 (own_ne HI.out hz4))
            replace HBT := Lib.hid (HBT.out.grown hg6 HBT.out.size (fun j hj => by cases hj; exact hz2))
            clear HI HR HS hg6
            go_loopw [15, 16, 75] (fun sv ov iv wr => ∃ q : Nat, q ≤ ns.length ∧ iv = .int .i64 q ∧ OwnV wr w6.heap.size ov (weave (ns.take q) vs) ∧ (∃ A' m' c', sv = .slice A' m' c' ∧ m' ≤ c' ∧ c' ≤ maxLen ∧ VSl w6 A' m' (vs.drop (left (ns.take q)))) ∧ Below w6.heap.size w6 wr) (fun _ _ iv _ => ns.length - (intOf iv).toNat)
            case atStart => exact ⟨0, Nat.zero_le _, rfl, OwnV.nil _ _, ⟨A15, vs.length, c15, rfl, (own_len HV.out).2.1, (own_len HV.out).2.2, HV.out.sl rfl⟩, Below.refl _ _⟩
            case round =>
              obtain ⟨q, hq, rfl, hO, ⟨A', m', c', rfl, hm1, hm2, hV⟩, hb⟩ := hrel
              have hml : (weave (ns.take q) vs).length = q := by rw [weave_length, List.length_take]; omega
              obtain ⟨A16, c16, rfl, _, _⟩ := hO.form' (n := q) hml
              have hbs := hb.size
              by_cases hlt : q < ns.length
              · obtain ⟨b1, o1, y, hy, rfl, hb1, c0⟩ := ((HI6.out.below hb).sl (iat_length ns)).at_ hlt
                obtain ⟨x, rfl, hx⟩ := iat_get hy
                have hts := Vals.take_more hx
                have hls := left_snoc (ns.take q) x
                have hws := weave_snoc (ns.take q) x vs
                rw [← hts] at hls hws
                have hfl : (weave (ns.take q) vs).length < few := by rw [hml]; unfold few; omega
                have HX := Lib.hid (And.intro hls (And.intro hws hfl)); clear hls hws hfl hts
                by_cases hx1 : x = 1
                · subst hx1
                  have HO := Lib.hid hO; clear hO
                  clear hx hy HVL HD2 hml
                  generalize weave (ns.take q) vs = O at *
                  go_wp2_with (at_builtin; (refine wpList_push_val rfl (.tmp 81) (.tmp 83) rfl w6.heap.size (.slice A16 q c16) O nul wr.heap.size 1 rfl rfl (t := 38) (fr := (0, 0)) (heap_alloc_new wr (.cells #[.int .i64 0, .int .i64 0, .bool false, .string ByteArray.empty] 38)) (HO.out.alloc (.cells #[.int .i64 0, .int .i64 0, .bool false, .string ByteArray.empty] 38)) HX.out.2.2 (by simp; omega) ?_; intro u2 wB hI2 hgB hatB))
                  go_roundw
                  case rel => exact ⟨q + 1, by omega, by go_num, by rw [HX.out.2.1]; exact hI2, ⟨A', m', c', rfl, hm1, hm2, by rw [HX.out.1]; exact hV⟩, (hb.alloc hb.size _).grown hgB (by simp; omega) (own_base HO.out)⟩
                  case measure => simp [intOf]; omega
                · have hlt2 := left_take_lt hx hx1
                  rw [← HVL.out] at hlt2
                  have hdl : (vs.drop (left (ns.take q))).length = m' := hV.1
                  rw [List.length_drop] at hdl
                  obtain ⟨b2, o2, v, hv, rfl, hb2', e0, e1, e2, e3⟩ := (hV.below hb).at_ (k := 0) (by omega)
                  have hm0 : 0 < m' := by omega
                  have hVT := hV.tail2 (c := c') (by omega) hm1
                  rw [List.drop_drop] at hVT
                  have hhd : (vs.drop (left (ns.take q))).headD nul = v := by rw [List.headD_eq_head?_getD, List.head?_eq_getElem?, hv]; rfl
                  have hls := HX.out.1
                  have hws := HX.out.2.1
                  rw [if_neg hx1] at hls
                  rw [if_neg hx1, hhd] at hws
                  have HY := Lib.hid (And.intro hls (And.intro hws (And.intro HX.out.2.2 hVT))); clear hls hws hhd hv HX hVT
                  have hx2 : x < 2 := hxb x (List.mem_of_getElem? hx)
                  have hx0 : x = 0 := by clear HI6 HBT; omega
                  subst hx0
                  have HO := Lib.hid hO; clear hO
                  clear hx hy HVL HD2 hml hdl hlt2 hV hx1
                  generalize weave (ns.take q) vs = O at *
                  obtain ⟨kv, iv, bv, sv⟩ := v
                  rw [Nat.zero_mul, Nat.add_zero] at e0 e1 e2 e3
                  simp only [] at e0 e1 e2 e3
                  have hm0' : (1 : Int) ≤ (m' : Int) := by omega
                  go_wp2
                  go_region_law (refine step_push_val rfl (.tmp 85) (.tmp 89) rfl w6.heap.size _ O ⟨kv, iv, bv, sv⟩ _ 1 rfl rfl (t := 38) (fr := (0, 0)) (heap_alloc_new _ _) (HO.out.drew.alloc _) HY.out.2.2.1 (by simp; omega) ?_; intro u wA hA hgA hatA; have HA := Lib.hid hA; clear hA)
                  all_goals
                    go_wp2
                    go_roundw
                    case rel => exact ⟨q + 1, by omega, by go_num, by rw [HY.out.2.1]; exact HA.out, ⟨_, _, _, rfl, by omega, by omega, by rw [HY.out.1]; exact HY.out.2.2.2⟩, (hb.drew.alloc hb.size _).grown hgA (by simp; omega) (own_base HO.out)⟩
                    case measure => simp [intOf]; omega
              · obtain rfl : q = ns.length := by omega
                rw [List.take_of_length_le (Nat.le_refl _)] at hO
                rw [List.take_of_length_le (Nat.le_refl _)] at hml
                have hgb := HD2.out.1
                have hgg := HD2.out.2.1
                have hP := fun w h => put_any k A16 ns.length c16 (weave ns vs) w h HD2.out.2.2
                have hsl := hO.sl hml
                have hz6 := HBT.out.size
                have hO2 : OwnV wr w.heap.size (.slice A16 ns.length c16) (weave ns vs) := own_le hO hz6
                replace HBT := Lib.hid (bthen HBT.out hb (Nat.le_refl _))
                clear HD2 HVL HI6 hO hxb hV
                generalize weave ns vs = O at *
                have HO := Lib.hid hO2; clear hO2
                have HSL := Lib.hid hsl; clear hsl
                by_cases h0 : mayErr k O = 0
                · by_cases hpe : put k O = s.data.toList
                  · have hg := hgg ⟨h0, hpe⟩
                    have HG := Lib.hid hg; clear hg hgb hgg
                    rw [h0, hpe, str_self] at hP
                    have HP := Lib.hid hP; clear hP h0 hpe
                    go_wp2_with (go_at_call 22; (with_reducible refine (HP.out _ HSL.out).mono ?_); rintro e7 w7 ⟨rfl, hb7⟩)
                    go_ret2
                    exact ⟨_, ret_vi HG.out.2.symm, by rw [HG.out.1]; exact HO.out.below hb7, bthen HBT.out hb7 (Nat.le_refl _)⟩
                  · have hg := hgb (fun h => hpe h.2)
                    have HG := Lib.hid hg; clear hg hgb hgg
                    rw [h0] at hP
                    have hne := str_ne hpe
                    generalize str (put k O) = Z at *
                    have HP := Lib.hid hP; clear hP h0 hpe
                    go_wp2_with (go_at_call 22; (with_reducible refine (HP.out _ HSL.out).mono ?_); rintro e7 w7 ⟨rfl, hb7⟩)
                    go_ret2
                    exact ⟨_, ret_vi HG.out.2.symm, by rw [HG.out.1]; exact OwnV.nil _ _, bthen HBT.out hb7 (Nat.le_refl _)⟩
                · have hg := hgb (fun h => h0 h.1)
                  have HG := Lib.hid hg; clear hg hgb hgg
                  have hne : (((mayErr k O : Nat) : Int) != 0) = true := by simp; omega
                  generalize ((mayErr k O : Nat) : Int) = E at *
                  generalize str (put k O) = Z at *
                  have HP := Lib.hid hP; clear hP h0
                  go_wp2_with (go_at_call 22; (with_reducible refine (HP.out _ HSL.out).mono ?_); rintro e7 w7 ⟨rfl, hb7⟩)
                  go_ret2
                  exact ⟨_, ret_vi HG.out.2.symm, by rw [HG.out.1]; exact OwnV.nil _ _, bthen HBT.out hb7 (Nat.le_refl _)⟩
  · rw [decide_eq_false h1] at hK
    have hg := get_kind s h1
    have HK := Lib.hid hK; clear hK
    have HG := Lib.hid hg; clear hg h1
    go_enter Try.func29, Try.ntmps29
    go_wp2_with (go_at_call 61; (with_reducible refine (HK.out _).mono ?_); rintro e w1 ⟨rfl, rfl⟩)
    go_ret2
    exact ⟨_, ret_vi HG.out.2.symm, by rw [HG.out.1]; exact OwnV.nil _ _, Below.refl _ _⟩
end Go.Proofs.Ytcfjagbdjnlfoaa.Vec

/-
  THE WALK of boathouseref7.Unvec.
-/




namespace Go.Proofs.Ytcfjagbdjnlfoaa.Vec
open Go.RowKit ValMath Vals Sl VecMath Words

def uvals (k : Int) (s : ByteArray) : List Val := (unvec decR k s.data.toList).1
def ucode (k : Int) (s : ByteArray) : Int := ((unvec decR k s.data.toList).2 : Nat)
theorem uvals_same (k : Int) (s : ByteArray) : uvals k s = gvals k s := by unfold uvals gvals; rw [unvec_same]
theorem ucode_same (k : Int) (s : ByteArray) : ucode k s = gcode k s := by unfold ucode gcode; rw [unvec_same]
theorem unv_kind {k : Int} (s : ByteArray) (h : ¬ (1 ≤ k ∧ k ≤ 3)) : uvals k s = [] ∧ ucode k s = 900 := by
  unfold uvals ucode unvec; rw [if_pos (by omega)]; exact ⟨rfl, rfl⟩
theorem unv_sum {k : Int} {s : ByteArray} (h : 1 ≤ k ∧ k ≤ 3) (ho : CrcMath.open_ s.data.toList = none) : uvals k s = [] ∧ ucode k s = 902 := by
  unfold uvals ucode unvec; rw [if_neg (by omega), ho]; exact ⟨rfl, rfl⟩
theorem unv_form {k : Int} {s : ByteArray} {b : List UInt8} (h : 1 ≤ k ∧ k ≤ 3) (ho : CrcMath.open_ s.data.toList = some b) (hd : decR k b = none) : uvals k s = [] ∧ ucode k s = 901 := by
  unfold uvals ucode unvec; rw [if_neg (by omega), ho]; simp only [hd]; exact ⟨trivial, rfl⟩
theorem unv_worse {k : Int} {s : ByteArray} {b : List UInt8} {vs : List Val} (h : 1 ≤ k ∧ k ≤ 3) (ho : CrcMath.open_ s.data.toList = some b) (hd : decR k b = some vs) (hn : ¬ (mayErr k vs = 0 ∧ put k vs = s.data.toList)) : uvals k s = [] ∧ ucode k s = 901 := by
  unfold uvals ucode unvec; rw [if_neg (by omega), ho]; simp only [hd]; rw [if_neg hn]; exact ⟨rfl, rfl⟩
theorem unv_good {k : Int} {s : ByteArray} {b : List UInt8} {vs : List Val} (h : 1 ≤ k ∧ k ≤ 3) (ho : CrcMath.open_ s.data.toList = some b) (hd : decR k b = some vs) (hn : mayErr k vs = 0 ∧ put k vs = s.data.toList) : uvals k s = vs ∧ ucode k s = 0 := by
  unfold uvals ucode unvec; rw [if_neg (by omega), ho]; simp only [hd]; rw [if_pos hn]; exact ⟨rfl, rfl⟩
set_option maxRecDepth 20000 in
set_option maxHeartbeats 8000000 in
theorem unvec_any (k : Int) (s : ByteArray) (w : World) (hs : s.size ≤ maxReach) :
    Calls Try.prog 30 #[.int .i64 k, .string s] w fun e w' => ∃ u, e = .returned (.tuple #[u, .int .i64 (ucode k s)]) ∧ OwnV w' w.heap.size u (uvals k s) ∧ Below w.heap.size w w' := by
  by_cases h1 : 1 ≤ k ∧ k ≤ 3
  · have hkd1 : ¬ k < 1 := by omega
    have hkd2 : ¬ 3 < k := by omega
    have hO := fun w => Crc.refOpen_any s w hs
    cases ho : CrcMath.open_ s.data.toList with
    | none =>
      have hg := unv_sum h1 ho
      have hc : Crc.code s.data.toList = 400 := by unfold Crc.code; rw [ho]; rfl
      rw [hc] at hO
      have HO := Lib.hid hO; clear hO
      have HG := Lib.hid hg; clear hg hc ho h1
      go_enter Try.func30, Try.ntmps30
      go_wp2_with (go_at_call 64; (with_reducible refine (HO.out _).mono ?_); rintro e w2 ⟨rfl, hb2⟩)
      go_ret2
      exact ⟨_, ret_vi HG.out.2.symm, by rw [HG.out.1]; exact OwnV.nil _ _, hb2⟩
    | some b =>
      have hc : Crc.code s.data.toList = 0 := by unfold Crc.code; rw [ho]; rfl
      have hop : Crc.opened s.data.toList = b := by unfold Crc.opened; rw [ho]; rfl
      rw [hc, hop] at hO
      clear hc hop
      have hbl := open_len ho
      cases b with
      | nil =>
        have hg := unv_form h1 ho (show decR k [] = none from if_pos rfl)
        have he : (str []).toList.isEmpty = true := by rw [Lib.toList_data]; rfl
        have HO := Lib.hid hO; clear hO
        have HG := Lib.hid hg; clear hg ho h1
        go_enter Try.func30, Try.ntmps30
        go_wp2_with (go_at_call 64; (with_reducible refine (HO.out _).mono ?_); rintro e w2 ⟨rfl, hb2⟩)
        go_ret2
        exact ⟨_, ret_vi HG.out.2.symm, by rw [HG.out.1]; exact OwnV.nil _ _, hb2⟩
      | cons e0 bt =>
      have ok0 : OkR ⟨e0 :: bt, 1, false⟩ := ⟨by simp, by rw [show s.data.toList.length = s.size by simp] at hbl; show (e0 :: bt).length ≤ maxReach; omega⟩
      have hk3 : k = 1 ∨ k = 2 ∨ k = 3 := by omega
      have hdp : decR k (e0 :: bt) = (if (someR k e0.toNat (left (rdPackedR (rdNum 4096 ⟨e0 :: bt, 1, false⟩).1 1 (rdNum 4096 ⟨e0 :: bt, 1, false⟩).2).1) (rdPackedR (rdNum 4096 ⟨e0 :: bt, 1, false⟩).1 1 (rdNum 4096 ⟨e0 :: bt, 1, false⟩).2).2).2.bad = true ∨
          (someR k e0.toNat (left (rdPackedR (rdNum 4096 ⟨e0 :: bt, 1, false⟩).1 1 (rdNum 4096 ⟨e0 :: bt, 1, false⟩).2).1) (rdPackedR (rdNum 4096 ⟨e0 :: bt, 1, false⟩).1 1 (rdNum 4096 ⟨e0 :: bt, 1, false⟩).2).2).1.length ≠ left (rdPackedR (rdNum 4096 ⟨e0 :: bt, 1, false⟩).1 1 (rdNum 4096 ⟨e0 :: bt, 1, false⟩).2).1 then none else
          some (weave (rdPackedR (rdNum 4096 ⟨e0 :: bt, 1, false⟩).1 1 (rdNum 4096 ⟨e0 :: bt, 1, false⟩).2).1 (someR k e0.toNat (left (rdPackedR (rdNum 4096 ⟨e0 :: bt, 1, false⟩).1 1 (rdNum 4096 ⟨e0 :: bt, 1, false⟩).2).1) (rdPackedR (rdNum 4096 ⟨e0 :: bt, 1, false⟩).1 1 (rdNum 4096 ⟨e0 :: bt, 1, false⟩).2).2).1)) := rfl
      have hN : ∀ g w, Rdr 116 w g ⟨e0 :: bt, 1, false⟩ → Calls Try.prog 65 #[.pointer (some ⟨g, 0, none⟩), .int .i64 4096] w fun e w' => e = .returned (.int .i64 ((rdNum 4096 ⟨e0 :: bt, 1, false⟩).1 : Nat)) ∧ Rdr 116 w' g (rdNum 4096 ⟨e0 :: bt, 1, false⟩).2 ∧ w.grownBy w' (some g) := fun g w h => tnum_any g 4096 ⟨e0 :: bt, 1, false⟩ w h ok0
      have hle := rdNum_le 4096 ⟨e0 :: bt, 1, false⟩
      have ok2 := rdNum_okR (m := 4096) ok0
      generalize rdNum 4096 ⟨e0 :: bt, 1, false⟩ = X at *
      obtain ⟨many, r2⟩ := X
      simp only [] at hdp hN hle ok2
      have hP : ∀ g w, Rdr 116 w g r2 → Calls Try.prog 66 #[.pointer (some ⟨g, 0, none⟩), .int .i64 (many : Nat), .int .i64 1] w fun e w' => ∃ v, e = .returned v ∧ OwnI w' w.heap.size v (iat (rdPackedR many 1 r2).1) ∧ Rdr 116 w' g (rdPackedR many 1 r2).2 ∧ w.grownBy w' (some g) := fun g w h => tpacked_any g many 1 r2 w h ok2 hle (by omega)
      have hxl := rdPackedR_len many 1 r2
      have hxb := rdPackedR_lt many 1 r2
      have hful := rdPackedR_full (m := many) (w := 1) (r := r2)
      have ok3 := rdPackedR_okR (m := many) (w := 1) ok2
      generalize rdPackedR many 1 r2 = X at *
      obtain ⟨ns, r3⟩ := X
      simp only [] at hdp hP hxl hxb ok3 hful
      have hS := fun g w h => tsome_any k g e0.toNat (left ns) r3 w hk3 h ok3 (by have := left_le ns; omega)
      have hsf := someR_fine hk3 e0.toNat (left ns) r3
      have hll := left_le ns
      have hwas := fun h => hful (someR_was (k := k) (e := e0.toNat) (m := left ns) (r := r3) h)
      generalize someR k e0.toNat (left ns) r3 = X at *
      obtain ⟨vs, r4⟩ := X
      simp only [] at hdp hS hsf hwas
      have he : (str (e0 :: bt)).toList.isEmpty = false := by rw [Lib.toList_data]; rfl
      have hat := run_at (str (e0 :: bt)) 0 0 rfl (by rw [str_size]; simp)
      have hby : byteAt (str (e0 :: bt)).data.toList 0 = e0.toNat := by rw [str_list]; rfl
      rw [hby] at hat
      have hwr : wrap64 ((e0.toNat : Nat) : Int) = ((e0.toNat : Nat) : Int) := by have := e0.toNat_lt; unfold wrap64; omega
      have hbx : ∀ w2 : World, Rdr 116 (w2.alloc (.cells #[.string (str (e0 :: bt)), .int .i64 1, .bool false] 116)) w2.heap.size ⟨e0 :: bt, 1, false⟩ := fun w2 => heap_alloc_new w2 _
      generalize (⟨e0 :: bt, 1, false⟩ : Rd) = r0 at *
      have HD := Lib.hid (And.intro h1 (And.intro ho (And.intro hdp (And.intro hsf hwas)))); clear h1 ho hdp hsf hwas hful ok0 ok2 ok3 hk3 hbl
      generalize hS0 : str (e0 :: bt) = S0 at *
      clear hS0 hby
      generalize e0.toNat = en at *
      have HO := Lib.hid hO; clear hO
      have HN := Lib.hid hN; clear hN
      have HP := Lib.hid hP; clear hP
      have HS := Lib.hid hS; clear hS
      have HBX := Lib.hid hbx; clear hbx
      go_enter Try.func30, Try.ntmps30
      go_wp2_with (first
        | (go_at_call 64; (with_reducible refine (HO.out _).mono ?_); rintro e2 w2 ⟨rfl, hb2⟩; have HR0 := Lib.hid (HBX.out w2))
        | (go_at_call 65; (with_reducible refine (HN.out _ _ HR0.out).mono ?_); rintro e4 w4 ⟨rfl, hR, hg4⟩; have HR4 := Lib.hid hR; clear hR)
        | (go_at_call 66; (with_reducible refine (HP.out _ _ HR4.out).mono ?_); rintro e5 w5 ⟨v, rfl, hI, hR, hg5⟩; obtain ⟨A11, c11, rfl, _, _, _⟩ := hI.form (n := ns.length) (iat_length ns); have HI := Lib.hid hI; have HR5 := Lib.hid hR; clear hI hR))
      have hbt5 := (((hb2.alloc hb2.size (.cells #[.string S0, .int .i64 1, .bool false] 116)).grown hg4 (Below.size (hb2.alloc hb2.size (.cells #[.string S0, .int .i64 1, .bool false] 116))) (fun j hj => by cases hj; exact hb2.size)))
      have hbt7 := hbt5.grown hg5 hbt5.size (fun j hj => by cases hj; exact hb2.size)
      have HBT := Lib.hid hbt7; clear hbt5 hbt7
      have hz4 : w2.heap.size < w4.heap.size := by have h4 := hg4.size; simp at h4; omega
      have hz2 := hb2.size
      clear hg4 hg5 HR0 HR4 HO HN HP HBX
      go_loopw [11, 12] (fun nv iv wr => ∃ q : Nat, q ≤ ns.length ∧ iv = .int .i64 q ∧ nv = .int .i64 (left (ns.take q) : Nat) ∧ Below w5.heap.size w5 wr) (fun _ iv _ => ns.length - (intOf iv).toNat)
      case atStart => exact ⟨0, Nat.zero_le _, rfl, rfl, Below.refl _ _⟩
      case round =>
        obtain ⟨q, hq, rfl, rfl, hb⟩ := hrel
        have hI := HI.out.below hb
        by_cases hlt : q < ns.length
        · obtain ⟨b1, o1, y, hy, rfl, hb1, c0⟩ := (hI.sl (iat_length ns)).at_ hlt
          obtain ⟨x, rfl, hx⟩ := iat_get hy
          have hts := Vals.take_more hx
          have hls := left_snoc (ns.take q) x
          rw [← hts] at hls
          have hx2 := hxb x (List.mem_of_getElem? hx)
          have hlq := left_le (ns.take q)
          rw [List.length_take] at hlq
          clear hI HD HS HI HR5 HBT hts hx hy
          generalize left (ns.take q) = l0 at *
          have hw0 : IntKind.i64.wrap ((l0 : Int) + 1) = (l0 : Int) + 1 := IntWalk.i64_in _ (by omega)
          by_cases hx1 : x = 1
          · subst hx1
            rw [if_pos rfl] at hls
            have HL := Lib.hid hls; clear hls
            have hw1 : IntKind.i64.wrap ((l0 : Int) + 1 - 1) = (l0 : Int) := by rw [IntWalk.i64_in _ (by omega)]; omega
            go_wp2
            go_roundw
            case rel => exact ⟨q + 1, by omega, by go_num, by rw [HL.out]; rfl, hb⟩
            case measure => simp [intOf]; omega
          · obtain rfl : x = 0 := by omega
            rw [if_neg hx1] at hls
            have HL := Lib.hid hls; clear hls hx1
            have hw1 : IntKind.i64.wrap ((l0 : Int) + 1 - 0) = ((l0 + 1 : Nat) : Int) := by rw [IntWalk.i64_in _ (by omega)]; push_cast; omega
            go_wp2
            go_roundw
            case rel => exact ⟨q + 1, by omega, by go_num, by rw [HL.out]; go_num, hb⟩
            case measure => simp [intOf]; omega
        · obtain rfl : q = ns.length := by omega
          rw [List.take_of_length_le (Nat.le_refl _)]
          have HI := Lib.hid hI; clear hI
          have HR := Lib.hid (HR5.out.below hb)
          replace HBT := Lib.hid (bthen HBT.out hb (Nat.le_refl _))
          have hzr := hb.size
          clear HR5
          obtain ⟨wv, rfl⟩ : ∃ wv : World, wv = wr := ⟨_, rfl⟩
          obtain ⟨s4, a4, b4⟩ := r4
          by_cases hgd : b4 = true ∨ vs.length ≠ left ns
          · have hdp := HD.out.2.2.1
            rw [if_pos hgd] at hdp
            have hg := unv_form HD.out.1 HD.out.2.1 hdp
            have HG := Lib.hid hg; clear hg hdp HD hxb
            cases b4 with
            | true =>
              go_wp2_with (go_at_call 67; (with_reducible refine (HS.out _ _ HR.out).mono ?_); rintro e6 w6 ⟨v, rfl, hV, hR, hg6⟩; obtain ⟨A15, c15, rfl, _, _⟩ := hV.form' (n := vs.length) rfl; have z2 := hR.cells.2.2; have HV := Lib.hid hV; clear hV hR)
              go_ret2
              exact ⟨_, ret_vi HG.out.2.symm, by rw [HG.out.1]; exact OwnV.nil _ _, HBT.out.grown hg6 HBT.out.size (fun j hj => by cases hj; exact hz2)⟩
            | false =>
              have hd2 : ((((vs.length : Nat) : Int)) != ((left ns : Nat) : Int)) = true := by simp; simp at hgd; omega
              clear hgd
              go_wp2_with (go_at_call 67; (with_reducible refine (HS.out _ _ HR.out).mono ?_); rintro e6 w6 ⟨v, rfl, hV, hR, hg6⟩; obtain ⟨A15, c15, rfl, _, _⟩ := hV.form' (n := vs.length) rfl; have z2 := hR.cells.2.2; have HV := Lib.hid hV; clear hV hR)
              go_ret2
              exact ⟨_, ret_vi HG.out.2.symm, by rw [HG.out.1]; exact OwnV.nil _ _, HBT.out.grown hg6 HBT.out.size (fun j hj => by cases hj; exact hz2)⟩
          · have hb4 : b4 = false := by cases b4 <;> simp at hgd ⊢
            subst hb4
            have hnm : ns.length = many := HD.out.2.2.2.2 rfl
            have hvl : vs.length = left ns := by
              by_cases h : vs.length = left ns
              · exact h
              · exact absurd (.inr h) hgd
            have hdp := HD.out.2.2.1
            rw [if_neg hgd] at hdp
            have hgb := fun h => unv_worse HD.out.1 HD.out.2.1 hdp h
            have hgg := fun h => unv_good HD.out.1 HD.out.2.1 hdp h
            have hfw := weave_fine ns vs HD.out.2.2.2.1
            have HD2 := Lib.hid (And.intro hgb (And.intro hgg hfw)); clear hgb hgg hfw hdp HD hgd
            subst hnm
            have d1 : ((((vs.length : Nat) : Int)) != ((left ns : Nat) : Int)) = false := by simp; omega
            have HVL := Lib.hid hvl; clear hvl
            go_wp2_with (go_at_call 67; (with_reducible refine (HS.out _ _ HR.out).mono ?_); rintro e6 w6 ⟨v, rfl, hV, hR, hg6⟩; obtain ⟨A15, c15, rfl, _, _⟩ := hV.form' (n := vs.length) rfl; have z2 := hR.cells.2.2; have HV := Lib.hid hV; clear hV hR)
            clear d1 z2
            have HI6 := Lib.hid (HI.out.keepB hg6 (own_ne HI.out hz4))
            replace HBT := Lib.hid (HBT.out.grown hg6 HBT.out.size (fun j hj => by cases hj; exact hz2))
            have HV0 := HV.out.sl rfl
            clear HI HR HS hg6
            go_loopw [14, 15, 16] (fun ov jv iv wr => ∃ q : Nat, q ≤ ns.length ∧ iv = .int .i64 q ∧ jv = .int .i64 (left (ns.take q) : Nat) ∧ OwnV wr w6.heap.size ov (weave (ns.take q) vs) ∧ Below w6.heap.size w6 wr) (fun _ _ iv _ => ns.length - (intOf iv).toNat)
            case atStart => exact ⟨0, Nat.zero_le _, rfl, rfl, OwnV.nil _ _, Below.refl _ _⟩
            case round =>
              obtain ⟨q, hq, rfl, rfl, hO, hb⟩ := hrel
              have hml : (weave (ns.take q) vs).length = q := by rw [weave_length, List.length_take]; omega
              obtain ⟨A16, c16, rfl, _, _⟩ := hO.form' (n := q) hml
              have hbs := hb.size
              by_cases hlt : q < ns.length
              · obtain ⟨b1, o1, y, hy, rfl, hb1, c0⟩ := ((HI6.out.below hb).sl (iat_length ns)).at_ hlt
                obtain ⟨x, rfl, hx⟩ := iat_get hy
                have hts := Vals.take_more hx
                have hls := left_snoc (ns.take q) x
                have hws := weave_snoc (ns.take q) x vs
                rw [← hts] at hls hws
                have hfl : (weave (ns.take q) vs).length < few := by rw [hml]; unfold few; omega
                have HX := Lib.hid (And.intro hls (And.intro hws hfl)); clear hls hws hfl hts
                by_cases hx1 : x = 1
                · subst hx1
                  have HO := Lib.hid hO; clear hO
                  have hlx := HX.out.1
                  rw [if_pos rfl, Nat.add_zero] at hlx
                  have HLX := Lib.hid hlx; clear hlx
                  clear hx hy HVL HD2 hml HV0
                  generalize weave (ns.take q) vs = O at *
                  generalize left (ns.take q) = l0 at *
                  go_wp2_with (at_builtin; (refine wpList_push_val rfl (.tmp 83) (.tmp 85) rfl w6.heap.size (.slice A16 q c16) O nul wr.heap.size 1 rfl rfl (t := 38) (fr := (0, 0)) (heap_alloc_new wr (.cells #[.int .i64 0, .int .i64 0, .bool false, .string ByteArray.empty] 38)) (HO.out.alloc (.cells #[.int .i64 0, .int .i64 0, .bool false, .string ByteArray.empty] 38)) HX.out.2.2 (by simp; omega) ?_; intro u2 wB hI2 hgB hatB))
                  go_roundw
                  case rel => exact ⟨q + 1, by omega, by go_num, by rw [HLX.out]; rfl, by rw [HX.out.2.1]; exact hI2, (hb.alloc hb.size _).grown hgB (by simp; omega) (own_base HO.out)⟩
                  case measure => simp [intOf]; omega
                · have hlt2 := left_take_lt hx hx1
                  rw [← HVL.out] at hlt2
                  obtain ⟨b2, o2, v, hv, rfl, hb2', e0', e1, e2', e3⟩ := (HV0.below hb).at_ (k := left (ns.take q)) hlt2
                  have hhd : (vs.drop (left (ns.take q))).headD nul = v := by rw [List.headD_eq_head?_getD, List.head?_drop, hv]; rfl
                  have hls := HX.out.1
                  have hws := HX.out.2.1
                  rw [if_neg hx1] at hls
                  rw [if_neg hx1, hhd] at hws
                  have HY := Lib.hid (And.intro hls (And.intro hws HX.out.2.2)); clear hls hws hhd hv HX
                  have hx2 : x < 2 := hxb x (List.mem_of_getElem? hx)
                  have hx0 : x = 0 := by clear HI6 HBT; omega
                  subst hx0
                  have HO := Lib.hid hO; clear hO
                  have hll0 := left_le (ns.take q)
                  rw [List.length_take] at hll0
                  clear hx hy HVL HD2 hml hx1
                  generalize weave (ns.take q) vs = O at *
                  generalize left (ns.take q) = l0 at *
                  have hwl0 : IntKind.i64.wrap ((l0 : Int) + 1) = ((l0 + 1 : Nat) : Int) := by rw [IntWalk.i64_in _ (by omega)]; push_cast; rfl
                  obtain ⟨kv, iv, bv, sv⟩ := v
                  simp only [] at e0' e1 e2' e3
                  go_wp2_with (at_builtin; (refine wpList_push_val rfl (.tmp 87) (.tmp 92) rfl w6.heap.size (.slice A16 q c16) O ⟨kv, iv, bv, sv⟩ wr.heap.size 1 rfl rfl (t := 38) (fr := (0, 0)) (heap_alloc_new wr (.cells #[.int .i64 kv, .int .i64 iv, .bool bv, .string sv] 38)) (HO.out.alloc (.cells #[.int .i64 kv, .int .i64 iv, .bool bv, .string sv] 38)) HY.out.2.2 (by simp; omega) ?_; intro u wA hA hgA hatA; have HA := Lib.hid hA; clear hA))
                  go_roundw
                  case rel => exact ⟨q + 1, by omega, by go_num, by rw [HY.out.1]; go_num, by rw [HY.out.2.1]; exact HA.out, (hb.alloc hb.size _).grown hgA (by simp; omega) (own_base HO.out)⟩
                  case measure => simp [intOf]; omega
              · obtain rfl : q = ns.length := by omega
                rw [List.take_of_length_le (Nat.le_refl _)] at hO
                rw [List.take_of_length_le (Nat.le_refl _)] at hml
                have hgb := HD2.out.1
                have hgg := HD2.out.2.1
                have hP := fun w h => refVec_any k A16 ns.length c16 (weave ns vs) w h HD2.out.2.2
                have hsl := hO.sl hml
                have hz6 := HBT.out.size
                have hO2 : OwnV wr w.heap.size (.slice A16 ns.length c16) (weave ns vs) := own_le hO hz6
                replace HBT := Lib.hid (bthen HBT.out hb (Nat.le_refl _))
                clear HD2 HVL HI6 hO hxb HV0
                generalize weave ns vs = O at *
                have HO := Lib.hid hO2; clear hO2
                have HSL := Lib.hid hsl; clear hsl
                generalize encOf k O = EN at *
                by_cases h0 : mayErr k O = 0
                · by_cases hpe : put k O = s.data.toList
                  · have hg := hgg ⟨h0, hpe⟩
                    have HG := Lib.hid hg; clear hg hgb hgg
                    rw [h0, hpe, str_self] at hP
                    have HP := Lib.hid hP; clear hP h0 hpe
                    go_wp2_with (go_at_call 23; (with_reducible refine (HP.out _ HSL.out).mono ?_); rintro e7 w7 ⟨rfl, hb7⟩)
                    go_ret2
                    exact ⟨_, ret_vi HG.out.2.symm, by rw [HG.out.1]; exact HO.out.below hb7, bthen HBT.out hb7 (Nat.le_refl _)⟩
                  · have hg := hgb (fun h => hpe h.2)
                    have HG := Lib.hid hg; clear hg hgb hgg
                    rw [h0] at hP
                    have hne := str_ne hpe
                    generalize str (put k O) = Z at *
                    have HP := Lib.hid hP; clear hP h0 hpe
                    go_wp2_with (go_at_call 23; (with_reducible refine (HP.out _ HSL.out).mono ?_); rintro e7 w7 ⟨rfl, hb7⟩)
                    go_ret2
                    exact ⟨_, ret_vi HG.out.2.symm, by rw [HG.out.1]; exact OwnV.nil _ _, bthen HBT.out hb7 (Nat.le_refl _)⟩
                · have hg := hgb (fun h => h0 h.1)
                  have HG := Lib.hid hg; clear hg hgb hgg
                  have hne : (((mayErr k O : Nat) : Int) != 0) = true := by simp; omega
                  generalize ((mayErr k O : Nat) : Int) = E at *
                  generalize str (put k O) = Z at *
                  have HP := Lib.hid hP; clear hP h0
                  go_wp2_with (go_at_call 23; (with_reducible refine (HP.out _ HSL.out).mono ?_); rintro e7 w7 ⟨rfl, hb7⟩)
                  go_ret2
                  exact ⟨_, ret_vi HG.out.2.symm, by rw [HG.out.1]; exact OwnV.nil _ _, bthen HBT.out hb7 (Nat.le_refl _)⟩
  · have hg := unv_kind s h1
    have HG := Lib.hid hg; clear hg
    by_cases hk1 : k < 1
    · clear h1
      go_enter Try.func30, Try.ntmps30
      go_wp2
      go_ret2
      exact ⟨_, ret_vi HG.out.2.symm, by rw [HG.out.1]; exact OwnV.nil _ _, Below.refl _ _⟩
    · have hk3 : 3 < k := by omega
      clear h1
      go_enter Try.func30, Try.ntmps30
      go_wp2
      go_ret2
      exact ⟨_, ret_vi HG.out.2.symm, by rw [HG.out.1]; exact OwnV.nil _ _, Below.refl _ _⟩
end Go.Proofs.Ytcfjagbdjnlfoaa.Vec

/-
  THE WALK of boathouselaw9.awake.
-/


namespace Go.Proofs.Ytcfjagbdjnlfoaa.Vec
open Go.RowKit ValMath Vals Sl VecMath Words

def five : Val := ⟨1, 5, false, ByteArray.empty⟩
def three : List Val := [five, nul, five]
def abcde : ByteArray := ⟨#[97, 98, 99, 100, 101]⟩
theorem fine_five : Fine five := by constructor <;> decide
theorem fine_three : ∀ v ∈ three, Fine v := by
  intro v hv; unfold three at hv; simp only [List.mem_cons, List.not_mem_nil, or_false] at hv; rcases hv with rfl | rfl | rfl; exact fine_five; exact fine_nul; exact fine_five
theorem awake_may : mayErr 1 three = 0 := by decide
theorem awake_may3 : mayErr 3 three = 901 := by decide
theorem awake_clean : three.map clean = three := by decide
theorem awake_get : gvals 1 (str (put 1 three)) = three ∧ gcode 1 (str (put 1 three)) = 0 := by
  unfold gvals gcode
  rw [str_list, unvec_back awake_may (by intro v hv; have := fine_three v hv; exact ⟨this.i1, this.i2⟩)]
  exact ⟨awake_clean, rfl⟩
theorem awake_sum : CrcMath.open_ abcde.data.toList = none := by decide +kernel
theorem awake_less : less nul five = true := by decide
theorem put_small (k : Int) {vs : List Val} (hf : ∀ v ∈ vs, Fine v) : (put k vs).length ≤ 401004 := by
  unfold put
  split
  · rename_i h
    have hm := may_zero h hf
    have := body_len k vs hm.1 (fun v hv => (hm.2 v hv).2)
    rw [seal_length]; omega
  · simp
theorem put_reach (k : Int) {vs : List Val} (hf : ∀ v ∈ vs, Fine v) : (str (put k vs)).size ≤ maxReach := by
  rw [str_size]; have := put_small k hf; unfold maxReach; omega
theorem below_of {w w' : World} (h : ∃ k, w' = w.drewN k) : Below w.heap.size w w' := by
  obtain ⟨k, rfl⟩ := h; exact below_drewN (Below.refl _ _) k

set_option maxRecDepth 20000 in
set_option maxHeartbeats 4000000 in
theorem awake_any (w : World) : Calls Try.prog 28 #[] w fun e w' => e = .returned (.bool true) ∧ Below w.heap.size w w' := by
  have hP1 := fun A c w h => put_any 1 A 3 c three w h fine_three
  have hP3 := fun A c w h => put_any 3 A 3 c three w h fine_three
  have hEn := fun A c w h => encoding_any 1 A 3 c three w h fine_three
  have hRv := fun A c w h => refVec_any 1 A 3 c three w h fine_three
  have hsz : (str (put 1 three)).size ≤ maxReach := put_reach 1 fine_three
  have hG := fun w => get_any 1 (str (put 1 three)) w hsz
  have hG5 := fun w => get_any 1 abcde w (by decide)
  have hc5 := (get_sum (k := 1) (s := abcde) (by omega) awake_sum).2
  rw [awake_get.1, awake_get.2] at hG
  rw [hc5] at hG5
  rw [awake_may] at hP1 hEn hRv
  rw [awake_may3] at hP3
  generalize str (put 1 three) = P at *
  generalize str (put 3 three) = P3 at *
  generalize encOf 1 three = EN at *
  have HP1 := Lib.hid hP1; clear hP1
  have HP3 := Lib.hid hP3; clear hP3
  have HEn := Lib.hid hEn; clear hEn
  have HRv := Lib.hid hRv; clear hRv
  have HG := Lib.hid hG; clear hG
  have HG5 := Lib.hid hG5; clear hG5 hc5
  go_enter Try.func28, Try.ntmps28
  go_wp2_with fail
  have hv0 : VSl (w.alloc (.cells #[.int .i64 1, .int .i64 5, .bool false, .string { data := #[] }, .int .i64 0, .int .i64 0, .bool false, .string { data := #[] }, .int .i64 1, .int .i64 5, .bool false, .string { data := #[] }] 38)) (some ⟨w.heap.size, 0, none⟩) 3 three := VSl.at3 w _ rfl five nul five _
  have hbt := Vals.one_new (w := w) (.cells #[.int .i64 1, .int .i64 5, .bool false, .string { data := #[] }, .int .i64 0, .int .i64 0, .bool false, .string { data := #[] }, .int .i64 1, .int .i64 5, .bool false, .string { data := #[] }] 38)
  generalize w.alloc (.cells #[.int .i64 1, .int .i64 5, .bool false, .string { data := #[] }, .int .i64 0, .int .i64 0, .bool false, .string { data := #[] }, .int .i64 1, .int .i64 5, .bool false, .string { data := #[] }] 38) = W0 at *
  have HV := Lib.hid hv0; clear hv0
  have HBT := Lib.hid hbt; clear hbt
  refine (HP1.out _ _ _ HV.out).mono ?_
  rintro e w1 ⟨rfl, hb1⟩
  replace HV := Lib.hid (HV.out.below hb1)
  (try replace HE := Lib.hid (HE.out.below hb1))
  replace HBT := Lib.hid (bthen HBT.out hb1 (Nat.le_refl _))
  clear hb1
  go_wp2_with fail
  refine (HG.out _).mono ?_
  rintro e w2 ⟨u, rfl, hE, hb2⟩
  replace HV := Lib.hid (HV.out.below hb2)
  (try replace HE := Lib.hid (HE.out.below hb2))
  replace HBT := Lib.hid (bthen HBT.out hb2 (Nat.le_refl _))
  obtain ⟨A4, c4, rfl, _, _⟩ := hE.form' (n := 3) rfl
  have HE := Lib.hid hE; clear hE hb2
  go_wp2_with fail
  refine (HP3.out _ _ _ HV.out).mono ?_
  rintro e w3 ⟨rfl, hb3⟩
  replace HV := Lib.hid (HV.out.below hb3)
  (try replace HE := Lib.hid (HE.out.below hb3))
  replace HBT := Lib.hid (bthen HBT.out hb3 (Nat.le_refl _))
  clear hb3
  go_wp2_with fail
  refine (HG5.out _).mono ?_
  rintro e w4 ⟨u8, rfl, _, hb4⟩
  replace HV := Lib.hid (HV.out.below hb4)
  (try replace HE := Lib.hid (HE.out.below hb4))
  replace HBT := Lib.hid (bthen HBT.out hb4 (Nat.le_refl _))
  clear hb4
  go_wp2_with fail
  refine (HEn.out _ _ _ HV.out).mono ?_
  rintro e w5 ⟨rfl, hb5⟩
  replace HV := Lib.hid (HV.out.below hb5)
  (try replace HE := Lib.hid (HE.out.below hb5))
  replace HBT := Lib.hid (bthen HBT.out hb5 (Nat.le_refl _))
  clear hb5
  go_wp2_with fail
  refine (HRv.out _ _ _ HV.out).mono ?_
  rintro e w6 ⟨rfl, hb6⟩
  replace HV := Lib.hid (HV.out.below hb6)
  (try replace HE := Lib.hid (HE.out.below hb6))
  replace HBT := Lib.hid (bthen HBT.out hb6 (Nat.le_refl _))
  clear hb6
  go_wp2_with (go_at_call 13; refine (Nums.num_any _ _).mono ?_; rintro e w' ⟨rfl, rfl⟩)
  refine (sameValues_any _ _ 3 3 _ _ three three _ (HE.out.sl rfl) HV.out (by unfold maxLen; omega)).mono ?_
  rw [decide_eq_true rfl]
  rintro e w7 ⟨rfl, hk7⟩
  have hb7 := below_of hk7
  replace HV := Lib.hid (HV.out.below hb7)
  (try replace HE := Lib.hid (HE.out.below hb7))
  replace HBT := Lib.hid (bthen HBT.out hb7 (Nat.le_refl _))
  clear hb7 hk7
  obtain ⟨b0, o0, v0, hv0, hb0, _, c0, c1, c2, c3⟩ := HV.out.at_ (k := 0) (by omega)
  injection hb0 with hb0
  injection hb0 with hb0 ho0
  subst hb0 ho0
  obtain rfl : five = v0 := by injection hv0
  simp only [five, Nat.zero_mul, Nat.zero_add] at c0 c1 c2 c3
  go_wp2_with (first | (go_at_call 13; refine (Nums.num_any _ _).mono ?_; rintro e w' ⟨rfl, rfl⟩) | (go_at_call 26; refine (Stats.less_any nul five _).mono ?_; rw [awake_less]; rintro e w8 ⟨rfl, hb8⟩))
  go_ret
  exact ⟨rfl, bthen HBT.out hb8 (Nat.le_refl _)⟩
end Go.Proofs.Ytcfjagbdjnlfoaa.Vec

/-
  THE WALK of boathouselaw9.VecPuts. (Printed by wip/tools/genvp.py.)
-/

namespace Go.Proofs.Ytcfjagbdjnlfoaa.Vec
open Go.RowKit ValMath Vals Sl VecMath Words Mem

theorem keep2 {w : World} {g h : Nat} {a b : Val} (h1 : Box w g a) (h2 : Box w h b) : (w.cell? ⟨g, 0, none⟩ = some (.int .i64 a.k) ∧ w.cell? ⟨g, 1, none⟩ = some (.int .i64 a.i) ∧ w.cell? ⟨g, 2, none⟩ = some (.bool a.b) ∧ w.cell? ⟨g, 3, none⟩ = some (.string a.s)) ∧
    (w.cell? ⟨h, 0, none⟩ = some (.int .i64 b.k) ∧ w.cell? ⟨h, 1, none⟩ = some (.int .i64 b.i) ∧ w.cell? ⟨h, 2, none⟩ = some (.bool b.b) ∧ w.cell? ⟨h, 3, none⟩ = some (.string b.s)) := ⟨h1.cells, h2.cells⟩
set_option maxRecDepth 20000 in
set_option maxHeartbeats 8000000 in
theorem vecPuts_any (k : Int) (A : Option Addr) (n cap : Nat) (vs : List Val) (a b : Val) (w : World) (h0 : VArg w A n cap vs) (ha : Fine a) (hb : Fine b) :
    Calls Try.prog 5 #[.int .i64 k, .slice A n cap, vagg a, vagg b] w fun e w' => e = .returned (.bool true) ∧ Below w.heap.size w w' := by
  have hP := fun A c w h => put_any k A n c vs w h h0.fine
  have hE := fun A c w h => encoding_any k A n c vs w h h0.fine
  have hR := fun A c w h => refVec_any k A n c vs w h h0.fine
  have hL := fun w => Stats.less_any a b w
  have hC := fun w => cmp_any a b w (Nat.le_trans ha.s (by unfold maxLen; omega)) (Nat.le_trans hb.s (by unfold maxLen; omega))
  have hlc : less a b = decide (cmp a b < 0) := by rw [Bool.eq_iff_iff, decide_eq_true_iff]; exact (cmp_neg a b).symm
  rw [hlc] at hL
  clear hlc
  generalize ((mayErr k vs : Nat) : Int) = E at *
  generalize ((encOf k vs : Nat) : Int) = EN at *
  generalize str (put k vs) = P at *
  generalize cmp a b = CM at *
  clear ha hb
  obtain ⟨ka, ia, ba, sa⟩ := a
  obtain ⟨kb, ib, bb, sb⟩ := b
  simp only [vagg] at hL hC ⊢
  have HP := Lib.hid hP; clear hP
  have HE := Lib.hid hE; clear hE
  have HR := Lib.hid hR; clear hR
  have HL := Lib.hid hL; clear hL
  have HC := Lib.hid hC; clear hC
  have h1 : Box ((w.alloc (.cells #[.int .i64 ka, .int .i64 ia, .bool ba, .string sa] 38)).alloc (.cells #[.int .i64 kb, .int .i64 ib, .bool bb, .string sb] 38)) w.heap.size ⟨ka, ia, ba, sa⟩ := (Box.new w ⟨ka, ia, ba, sa⟩).alloc _
  have h2 : Box ((w.alloc (.cells #[.int .i64 ka, .int .i64 ia, .bool ba, .string sa] 38)).alloc (.cells #[.int .i64 kb, .int .i64 ib, .bool bb, .string sb] 38)) (w.heap.size + 1) ⟨kb, ib, bb, sb⟩ := Stats.box_new _ _ (by simp) ⟨kb, ib, bb, sb⟩
  have hbt : Below w.heap.size w ((w.alloc (.cells #[.int .i64 ka, .int .i64 ia, .bool ba, .string sa] 38)).alloc (.cells #[.int .i64 kb, .int .i64 ib, .bool bb, .string sb] 38)) := Vals.two_new _ _
  have H0 := Lib.hid (h0.below hbt); clear h0
  have H1 := Lib.hid h1; clear h1
  have H2 := Lib.hid h2; clear h2
  have HBT := Lib.hid hbt; clear hbt
  go_enter Try.func5, Try.ntmps5
  go_wp2_with fail
  refine (lendValues_any _ _ _ vs _ H0.out).mono ?_
  rintro e wy ⟨g7, k7, rfl, h7, hby⟩
  replace H0 := Lib.hid (H0.out.below hby); replace H1 := Lib.hid (H1.out.below hby); replace H2 := Lib.hid (H2.out.below hby); (try replace H7 := Lib.hid (H7.out.below hby)); replace HBT := Lib.hid (bthen HBT.out hby (Nat.le_refl _)); (try clear hSK); clear hby; have hSK := keep2 H1.out H2.out
  have H7 := Lib.hid h7; clear h7
  go_wp2_with fail
  refine (HP.out _ _ _ H7.out.sl).mono ?_
  rintro e w1 ⟨rfl, hb1⟩
  replace H0 := Lib.hid (H0.out.below hb1); replace H1 := Lib.hid (H1.out.below hb1); replace H2 := Lib.hid (H2.out.below hb1); (try replace H7 := Lib.hid (H7.out.below hb1)); replace HBT := Lib.hid (bthen HBT.out hb1 (Nat.le_refl _)); (try clear hSK); clear hb1; have hSK := keep2 H1.out H2.out
  go_wp2_with fail
  refine (HR.out _ _ _ H0.out.sl).mono ?_
  rintro e w2 ⟨rfl, hb2⟩
  replace H0 := Lib.hid (H0.out.below hb2); replace H1 := Lib.hid (H1.out.below hb2); replace H2 := Lib.hid (H2.out.below hb2); (try replace H7 := Lib.hid (H7.out.below hb2)); replace HBT := Lib.hid (bthen HBT.out hb2 (Nat.le_refl _)); (try clear hSK); clear hb2; have hSK := keep2 H1.out H2.out
  go_wp2_with fail
  refine (HE.out _ _ _ H7.out.sl).mono ?_
  rintro e w3 ⟨rfl, hb3⟩
  replace H0 := Lib.hid (H0.out.below hb3); replace H1 := Lib.hid (H1.out.below hb3); replace H2 := Lib.hid (H2.out.below hb3); (try replace H7 := Lib.hid (H7.out.below hb3)); replace HBT := Lib.hid (bthen HBT.out hb3 (Nat.le_refl _)); (try clear hSK); clear hb3; have hSK := keep2 H1.out H2.out
  go_upto_region 5 with fail
  have h0d : VArg w3.drew A n cap vs := ⟨H0.out.sl, H0.out.le, H0.out.cap, H0.out.fine, H0.out.nil⟩
  have h7d : LentV w3.drew _ g7 n k7 vs := ⟨H7.out.own.drew, H7.out.len⟩
  replace H0 := Lib.hid h0d; clear h0d
  replace H7 := Lib.hid h7d; clear h7d
  replace H1 := Lib.hid H1.out.drew
  replace H2 := Lib.hid H2.out.drew
  replace HBT := Lib.hid HBT.out.drew
  clear hSK
  have hSK := keep2 H1.out H2.out
  go_region_held3 (fun w' => (w'.cell? ⟨w.heap.size, 0, none⟩ = some (.int .i64 ka) ∧ w'.cell? ⟨w.heap.size, 1, none⟩ = some (.int .i64 ia) ∧ w'.cell? ⟨w.heap.size, 2, none⟩ = some (.bool ba) ∧ w'.cell? ⟨w.heap.size, 3, none⟩ = some (.string sa)) ∧ (w'.cell? ⟨w.heap.size + 1, 0, none⟩ = some (.int .i64 kb) ∧ w'.cell? ⟨w.heap.size + 1, 1, none⟩ = some (.int .i64 ib) ∧ w'.cell? ⟨w.heap.size + 1, 2, none⟩ = some (.bool bb) ∧ w'.cell? ⟨w.heap.size + 1, 3, none⟩ = some (.string sb)))
    (first | (with_reducible exact hSK) | exact hSK)
    ((first
      | (go_at_call 13; refine (Nums.num_any _ _).mono ?_; rintro e w' ⟨rfl, rfl⟩)
      | (go_at_call 25; refine (keptValues_any _ _ _ n _ _ _ _ H7.out H0.out.sl).mono ?_; rintro e wA ⟨rfl, hbwA⟩; replace H0 := Lib.hid (H0.out.below hbwA); replace H1 := Lib.hid (H1.out.below hbwA); replace H2 := Lib.hid (H2.out.below hbwA); (try replace H7 := Lib.hid (H7.out.below hbwA)); replace HBT := Lib.hid (bthen HBT.out hbwA (Nat.le_refl _)); (try clear hSK); clear hbwA; have hSK := keep2 H1.out H2.out)
      | (go_at_call 26; refine (HL.out _).mono ?_; rintro e wB ⟨rfl, hbwB⟩; replace H0 := Lib.hid (H0.out.below hbwB); replace H1 := Lib.hid (H1.out.below hbwB); replace H2 := Lib.hid (H2.out.below hbwB); (try replace H7 := Lib.hid (H7.out.below hbwB)); replace HBT := Lib.hid (bthen HBT.out hbwB (Nat.le_refl _)); (try clear hSK); clear hbwB; have hSK := keep2 H1.out H2.out)
      | (go_at_call 27; refine (HC.out _).mono ?_; rintro e wC ⟨rfl, hbwC⟩; replace H0 := Lib.hid (H0.out.below hbwC); replace H1 := Lib.hid (H1.out.below hbwC); replace H2 := Lib.hid (H2.out.below hbwC); (try replace H7 := Lib.hid (H7.out.below hbwC)); replace HBT := Lib.hid (bthen HBT.out hbwC (Nat.le_refl _)); (try clear hSK); clear hbwC; have hSK := keep2 H1.out H2.out)
      | (go_at_call 28; refine (awake_any _).mono ?_; rintro e wD ⟨rfl, hbwD⟩; replace H0 := Lib.hid (H0.out.below hbwD); replace H1 := Lib.hid (H1.out.below hbwD); replace H2 := Lib.hid (H2.out.below hbwD); (try replace H7 := Lib.hid (H7.out.below hbwD)); replace HBT := Lib.hid (bthen HBT.out hbwD (Nat.le_refl _)); (try clear hSK); clear hbwD; have hSK := keep2 H1.out H2.out)))
  all_goals
    go_wp2
    go_ret
    exact ⟨rfl, HBT.out⟩
end Go.Proofs.Ytcfjagbdjnlfoaa.Vec

/-
  THE WALK of boathouselaw9.VecGets.
-/


namespace Go.Proofs.Ytcfjagbdjnlfoaa.Vec
open Go.RowKit ValMath Vals Sl VecMath Words Mem

theorem own_after {w w' : World} {B z n : Nat} {e : TypeId} {v : Value} {xs : List Value} {row : Option Nat} (h : w.ownsRow B e z v n xs) (hg : w.grownBy w' row) (hr : ∀ k, row = some k → k < B) : w'.ownsRow B e z v n xs := by
  refine World.ownsRow.kept h hg ?_
  cases hv : v.ownBlock with
  | none => exact .inl rfl
  | some k => exact .inr (fun e => by have := hr k e.symm; have := (World.ownsRow.lt h k hv).1; omega)
theorem gvals_len (k : Int) (s : ByteArray) : (gvals k s).length ≤ 4096 := by
  unfold gvals
  by_cases h : (unvec decP k s.data.toList).2 = 0
  · have := unvec_good (dec := decP) (k := k) (s := s.data.toList) (vs := (unvec decP k s.data.toList).1) (by rw [← h])
    exact (mayErr_zero this.1).2.1
  · rw [unvec_bad h]; simp
set_option maxRecDepth 20000 in
set_option maxHeartbeats 8000000 in
theorem vecGets_any (k : Int) (s : ByteArray) (sl : Bool) (w : World) (hs : s.size ≤ 140737488351232) :
    Calls Try.prog 6 #[.int .i64 k, .string s, .bool sl] w fun e w' => e = .returned (.bool true) ∧ Below w.heap.size w w' := by
  have hS := fun w => Crc.refSeal_any s w (by unfold maxReach; omega)
  have HS := Lib.hid hS; clear hS
  cases sl with
  | false =>
    have hG := fun w => get_any k s w (by unfold maxReach; omega)
    have hU := fun w => unvec_any k s w (by unfold maxReach; omega)
    simp only [uvals_same, ucode_same] at hU
    have hl := gvals_len k s
    generalize gvals k s = VS at *
    generalize gcode k s = CD at *
    have HG := Lib.hid hG; clear hG
    have HU := Lib.hid hU; clear hU
    have HBT := Lib.hid (Below.refl w.heap.size w)
    go_enter Try.func6, Try.ntmps6
    have hz0 := Nat.le_refl w.heap.size
    go_wp2_with fail
    refine (HG.out _).mono ?_
    rintro e w1 ⟨ua, rfl, hA, hb1⟩
    replace HBT := Lib.hid (bthen HBT.out hb1 (Nat.le_refl _))
    obtain ⟨A8, c8, rfl, _, _⟩ := hA.form' (n := VS.length) rfl
    have RA := Lib.hid (World.ownsRow.lt hA)
    have HA := Lib.hid hA; clear hA hb1
    go_wp2_with fail
    refine (HG.out _).mono ?_
    rintro e w2 ⟨ub, rfl, hB, hb2⟩
    replace HBT := Lib.hid (bthen HBT.out hb2 (Nat.le_refl _))
    replace HA := Lib.hid (HA.out.below hb2)
    obtain ⟨A10, c10, rfl, _, _⟩ := hB.form' (n := VS.length) rfl
    have HB := Lib.hid hB; clear hB
    go_wp2_with fail
    refine (HU.out _).mono ?_
    rintro e w3 ⟨uc, rfl, hC, hb3⟩
    replace HBT := Lib.hid (bthen HBT.out hb3 (Nat.le_refl _))
    replace HA := Lib.hid (HA.out.below hb3)
    replace HB := Lib.hid (HB.out.below hb3)
    obtain ⟨A12, c12, rfl, _, _⟩ := hC.form' (n := VS.length) rfl
    have RC := Lib.hid (World.ownsRow.lt hC)
    have hw12 := hb2.size
    have HC := Lib.hid hC; clear hC hb3 hb2
    go_wp2_with fail
    refine (sameValues_any _ _ VS.length VS.length _ _ VS VS _ (HA.out.sl rfl) (HC.out.sl rfl) (by unfold maxLen; omega)).mono ?_
    rw [decide_eq_true rfl]
    rintro e w4 ⟨rfl, hk4⟩
    have hb4 := below_of hk4
    replace HBT := Lib.hid (bthen HBT.out hb4 (Nat.le_refl _))
    replace HA := Lib.hid (HA.out.below hb4)
    replace HB := Lib.hid (HB.out.below hb4)
    replace HC := Lib.hid (HC.out.below hb4)
    clear hb4 hk4
    go_wp2_with (go_at_call 13; refine (Nums.num_any _ _).mono ?_; rintro e w' ⟨rfl, rfl⟩)
    refine (spoilValues_any _ _ VS.length _ VS _ HA.out rfl (by unfold maxLen; omega)).mono ?_
    rintro e w5 ⟨rfl, hg5⟩
    replace HBT := Lib.hid (HBT.out.grown hg5 HBT.out.size (fun j hj => Nat.le_trans hz0 (RA.out j hj).1))
    replace HB := Lib.hid (show OwnV _ _ _ _ from own_after HB.out hg5 (fun j hj => (RA.out j hj).2))
    replace HC := Lib.hid (show OwnV _ _ _ _ from own_after HC.out hg5 (fun j hj => Nat.lt_of_lt_of_le (RA.out j hj).2 hw12))
    clear hg5 HA RA RC
    go_wp2_with fail
    refine (sameValues_any _ _ VS.length VS.length _ _ VS VS _ (HB.out.sl rfl) (HC.out.sl rfl) (by unfold maxLen; omega)).mono ?_
    rw [decide_eq_true rfl]
    rintro e w6 ⟨rfl, hk6⟩
    have hb6 := below_of hk6
    replace HBT := Lib.hid (bthen HBT.out hb6 (Nat.le_refl _))
    clear hb6 hk6 HB HC
    go_wp2_with fail
    refine (awake_any _).mono ?_
    rintro e w7 ⟨rfl, hb7⟩
    replace HBT := Lib.hid (bthen HBT.out hb7 (Nat.le_refl _))
    go_wp2
    go_ret
    exact ⟨rfl, HBT.out⟩
  | true =>
    have hz : (str (CrcMath.seal_ s.data.toList)).size ≤ maxReach := by rw [str_size, seal_length]; simp; unfold maxReach; omega
    generalize str (CrcMath.seal_ s.data.toList) = T at *
    have hG := fun w => get_any k T w hz
    have hU := fun w => unvec_any k T w hz
    simp only [uvals_same, ucode_same] at hU
    have hl := gvals_len k T
    generalize gvals k T = VS at *
    generalize gcode k T = CD at *
    have HG := Lib.hid hG; clear hG
    have HU := Lib.hid hU; clear hU
    go_enter Try.func6, Try.ntmps6
    go_wp2_with fail
    refine (HS.out _).mono ?_
    rintro e w0 ⟨rfl, hb0⟩
    have HBT := Lib.hid hb0; clear hb0
    have hz0 := HBT.out.size
    go_wp2_with fail
    refine (HG.out _).mono ?_
    rintro e w1 ⟨ua, rfl, hA, hb1⟩
    replace HBT := Lib.hid (bthen HBT.out hb1 (Nat.le_refl _))
    obtain ⟨A8, c8, rfl, _, _⟩ := hA.form' (n := VS.length) rfl
    have RA := Lib.hid (World.ownsRow.lt hA)
    have HA := Lib.hid hA; clear hA hb1
    go_wp2_with fail
    refine (HG.out _).mono ?_
    rintro e w2 ⟨ub, rfl, hB, hb2⟩
    replace HBT := Lib.hid (bthen HBT.out hb2 (Nat.le_refl _))
    replace HA := Lib.hid (HA.out.below hb2)
    obtain ⟨A10, c10, rfl, _, _⟩ := hB.form' (n := VS.length) rfl
    have HB := Lib.hid hB; clear hB
    go_wp2_with fail
    refine (HU.out _).mono ?_
    rintro e w3 ⟨uc, rfl, hC, hb3⟩
    replace HBT := Lib.hid (bthen HBT.out hb3 (Nat.le_refl _))
    replace HA := Lib.hid (HA.out.below hb3)
    replace HB := Lib.hid (HB.out.below hb3)
    obtain ⟨A12, c12, rfl, _, _⟩ := hC.form' (n := VS.length) rfl
    have RC := Lib.hid (World.ownsRow.lt hC)
    have hw12 := hb2.size
    have HC := Lib.hid hC; clear hC hb3 hb2
    go_wp2_with fail
    refine (sameValues_any _ _ VS.length VS.length _ _ VS VS _ (HA.out.sl rfl) (HC.out.sl rfl) (by unfold maxLen; omega)).mono ?_
    rw [decide_eq_true rfl]
    rintro e w4 ⟨rfl, hk4⟩
    have hb4 := below_of hk4
    replace HBT := Lib.hid (bthen HBT.out hb4 (Nat.le_refl _))
    replace HA := Lib.hid (HA.out.below hb4)
    replace HB := Lib.hid (HB.out.below hb4)
    replace HC := Lib.hid (HC.out.below hb4)
    clear hb4 hk4
    go_wp2_with (go_at_call 13; refine (Nums.num_any _ _).mono ?_; rintro e w' ⟨rfl, rfl⟩)
    refine (spoilValues_any _ _ VS.length _ VS _ HA.out rfl (by unfold maxLen; omega)).mono ?_
    rintro e w5 ⟨rfl, hg5⟩
    replace HBT := Lib.hid (HBT.out.grown hg5 HBT.out.size (fun j hj => Nat.le_trans hz0 (RA.out j hj).1))
    replace HB := Lib.hid (show OwnV _ _ _ _ from own_after HB.out hg5 (fun j hj => (RA.out j hj).2))
    replace HC := Lib.hid (show OwnV _ _ _ _ from own_after HC.out hg5 (fun j hj => Nat.lt_of_lt_of_le (RA.out j hj).2 hw12))
    clear hg5 HA RA RC
    go_wp2_with fail
    refine (sameValues_any _ _ VS.length VS.length _ _ VS VS _ (HB.out.sl rfl) (HC.out.sl rfl) (by unfold maxLen; omega)).mono ?_
    rw [decide_eq_true rfl]
    rintro e w6 ⟨rfl, hk6⟩
    have hb6 := below_of hk6
    replace HBT := Lib.hid (bthen HBT.out hb6 (Nat.le_refl _))
    clear hb6 hk6 HB HC
    go_wp2_with fail
    refine (awake_any _).mono ?_
    rintro e w7 ⟨rfl, hb7⟩
    replace HBT := Lib.hid (bthen HBT.out hb7 (Nat.le_refl _))
    go_wp2
    go_ret
    exact ⟨rfl, HBT.out⟩
end Go.Proofs.Ytcfjagbdjnlfoaa.Vec

/-
  THE WALK of boathouselaw9.VecBack.
-/

namespace Go.Proofs.Ytcfjagbdjnlfoaa.Vec
open Go.RowKit ValMath Vals Sl VecMath Words Mem

theorem decP_fine {k : Int} (hk : k = 1 ∨ k = 2 ∨ k = 3) {b : List UInt8} {vs : List Val} (h : decP k b = some vs) : ∀ v ∈ vs, Fine v := by
  unfold decP at h
  simp only [] at h
  split at h
  · cases h
  · injection h with h; subst h; exact weave_fine _ _ (someP_fine hk _ _ _)
theorem gvals_fine (k : Int) (s : ByteArray) : ∀ v ∈ gvals k s, Fine v := by
  unfold gvals unvec
  split
  · intro v hv; simp at hv
  · split
    · intro v hv; simp at hv
    · split
      · intro v hv; simp at hv
      · rename_i hd
        split
        · exact decP_fine (by omega) hd
        · intro v hv; simp at hv
theorem gvals_good {k : Int} {s : ByteArray} (h : gcode k s = 0) : mayErr k (gvals k s) = 0 ∧ str (put k (gvals k s)) = s := by
  unfold gcode at h
  have h0 : (unvec decP k s.data.toList).2 = 0 := by omega
  have := unvec_good (dec := decP) (k := k) (s := s.data.toList) (vs := (unvec decP k s.data.toList).1) (by rw [← h0])
  exact ⟨this.1, by unfold gvals; rw [this.2, str_self]⟩
theorem gvals_none {k : Int} {s : ByteArray} (h : gcode k s ≠ 0) : gvals k s = [] := by
  unfold gcode at h
  exact unvec_bad (fun e => h (by rw [e]; rfl))
theorem put_back {k : Int} {vs : List Val} (h : mayErr k vs = 0) (hf : ∀ v ∈ vs, Fine v) : gvals k (str (put k vs)) = vs.map clean ∧ gcode k (str (put k vs)) = 0 := by
  unfold gvals gcode
  rw [str_list, unvec_back h (fun v hv => ⟨(hf v hv).i1, (hf v hv).i2⟩)]
  exact ⟨rfl, rfl⟩
theorem map_at {vs : List Val} {q : Nat} {v x : Val} (hv : vs[q]? = some v) (hx : (vs.map clean)[q]? = some x) : x = clean v := by
  rw [List.getElem?_map, hv] at hx; injection hx with hx; exact hx.symm
set_option maxRecDepth 20000 in
set_option maxHeartbeats 8000000 in
theorem vecBack_any (k : Int) (A : Option Addr) (n cap : Nat) (vs : List Val) (s : ByteArray) (w : World) (h0 : VArg w A n cap vs) (hs : s.size ≤ 140737488351232) :
    Calls Try.prog 7 #[.int .i64 k, .slice A n cap, .string s] w fun e w' => e = .returned (.bool true) ∧ Below w.heap.size w w' := by
  have hS := fun w => Crc.refSeal_any s w (by unfold maxReach; omega)
  have hz : (str (CrcMath.seal_ s.data.toList)).size ≤ maxReach := by rw [str_size, seal_length]; simp; unfold maxReach; omega
  generalize str (CrcMath.seal_ s.data.toList) = T at *
  have HS := Lib.hid hS; clear hS
  have hG := fun w => get_any k T w hz
  have HVF := Lib.hid (gvals_fine k T)
  have HGD := Lib.hid (gvals_good (k := k) (s := T))
  have HGN := Lib.hid (gvals_none (k := k) (s := T))
  have hl := gvals_len k T
  generalize gvals k T = VS at *
  generalize gcode k T = CD at *
  have HG := Lib.hid hG; clear hG hz
  have hP := fun A c w h => put_any k A n c vs w h h0.fine
  have hlen := h0.sl.1
  have hcap : n ≤ maxLen := by have h1 := h0.le; have h2 := h0.cap; unfold maxLen; omega
  by_cases hm : mayErr k vs = 0
  · have hpb := put_back hm h0.fine
    have hn4 := (mayErr_zero hm).2.1
    rw [hlen] at hn4
    have hG2 := fun w => get_any k (str (put k vs)) w (put_reach k h0.fine)
    rw [hpb.1, hpb.2] at hG2
    rw [hm] at hP
    generalize str (put k vs) = P at *
    clear hpb hm
    have HP := Lib.hid hP; clear hP
    have HG2 := Lib.hid hG2; clear hG2
    have H0 := Lib.hid h0; clear h0
    have HL := Lib.hid hlen; clear hlen
    have HBT := Lib.hid (Below.refl w.heap.size w)
    go_enter Try.func7, Try.ntmps7
    go_wp2_with (first
      | (go_at_call 28; refine (awake_any _).mono ?_; rintro e w1 ⟨rfl, hb1⟩; replace HBT := Lib.hid (bthen HBT.out hb1 (Nat.le_refl _)); replace H0 := Lib.hid (H0.out.below hb1); clear hb1)
      | (go_at_call 22; (with_reducible refine (HP.out _ _ _ H0.out.sl).mono ?_); rintro e w2 ⟨rfl, hb2⟩; replace HBT := Lib.hid (bthen HBT.out hb2 (Nat.le_refl _)); replace H0 := Lib.hid (H0.out.below hb2); clear hb2)
      | (go_at_call 13; refine (Nums.num_any _ _).mono ?_; rintro e w' ⟨rfl, rfl⟩)
      | (go_at_call 29; (with_reducible refine (HG2.out _).mono ?_); rintro e w3 ⟨u, rfl, hX, hb3⟩; replace HBT := Lib.hid (bthen HBT.out hb3 (Nat.le_refl _)); replace H0 := Lib.hid (H0.out.below hb3); obtain ⟨A9, c9, rfl, hX9, _⟩ := hX.form' (n := n) (by rw [List.length_map]; exact HL.out); have HX := Lib.hid hX9; clear hb3 hX9 hX))
    clear HP HG2
    go_loopw [11] (fun iv wr => ∃ q : Nat, q ≤ n ∧ iv = .int .i64 q ∧ Below w3.heap.size w3 wr) (fun iv _ => n - (intOf iv).toNat)
    case atStart => exact ⟨0, Nat.zero_le _, rfl, Below.refl _ _⟩
    case round =>
      obtain ⟨q, hq, rfl, hb⟩ := hrel
      by_cases hlt : q < n
      · obtain ⟨b1, o1, x, hx, rfl, hb1, c0, c1, c2, c3⟩ := (HX.out.below hb).at_ (k := q) hlt
        obtain ⟨b2, o2, v, hv, rfl, hb2, d0, d1, d2, d3⟩ := (H0.out.sl.below hb).at_ (k := q) hlt
        have hxv := map_at hv hx
        subst hxv
        have hC := fun w => clean_any v w
        have hN : ∀ W, (binOp .neq 38 (vagg (clean v)) (vagg (clean v))).run Try.prog W = .ok (.bool false) W := fun W => by
          have := neq_val (clean v) (clean v) W
          rw [decide_eq_true rfl] at this; exact this
        have hgd := fun x y a W => guard_val .neq x y a a W
        generalize clean v = x at *
        obtain ⟨kx, ix, bx, sx⟩ := x
        obtain ⟨kv, iv, bv, sv⟩ := v
        clear hx hv
        simp only [vagg] at c0 c1 c2 c3 d0 d1 d2 d3 hC hN
        have HC := Lib.hid hC; clear hC
        have hx4 : At4 wr b1 (o1 + q * 4) ⟨kx, ix, bx, sx⟩ := ⟨c0, c1, c2, c3⟩
        have hv4 : At4 wr b2 (o2 + q * 4) ⟨kv, iv, bv, sv⟩ := ⟨d0, d1, d2, d3⟩
        have HX4 := Lib.hid (And.intro hx4 hv4); clear hx4 hv4
        go_wp2
        go_region_held3 (fun w' => (w'.cell? ⟨b1, o1 + q * 4, none⟩ = some (.int .i64 kx) ∧ w'.cell? ⟨b1, o1 + q * 4 + 1, none⟩ = some (.int .i64 ix) ∧ w'.cell? ⟨b1, o1 + q * 4 + 2, none⟩ = some (.bool bx) ∧ w'.cell? ⟨b1, o1 + q * 4 + 3, none⟩ = some (.string sx)) ∧
            (w'.cell? ⟨b2, o2 + q * 4, none⟩ = some (.int .i64 kv) ∧ w'.cell? ⟨b2, o2 + q * 4 + 1, none⟩ = some (.int .i64 iv) ∧ w'.cell? ⟨b2, o2 + q * 4 + 2, none⟩ = some (.bool bv) ∧ w'.cell? ⟨b2, o2 + q * 4 + 3, none⟩ = some (.string sv)))
          (first | go_keep | exact ⟨HX4.out.1.drew.below hbK hb1, HX4.out.2.drew.below hbK hb2⟩)
          ((first | (go_at_call 33; with_reducible refine (HC.out _).mono ?_; rintro e wK ⟨rfl, hbK⟩)))
        have hbb := bthen hb.drew hbK (Nat.le_refl _)
        clear c0 c1 c2 c3 d0 d1 d2 d3 HX4 hb
        go_wp2
        go_roundw
        case rel => exact ⟨q + 1, by omega, by go_num, hbb⟩
        case measure => simp [intOf]; omega
      · obtain rfl : q = n := by omega
        replace HBT := Lib.hid (bthen HBT.out hb (Nat.le_refl _))
        clear HX H0 HL hb
        go_wp2_with (go_at_call 18; refine (HS.out _).mono ?_; rintro e w5 ⟨rfl, hb5⟩; replace HBT := Lib.hid (bthen HBT.out hb5 (Nat.le_refl _)); clear hb5)
        go_wp2_with fail
        refine (HG.out _).mono ?_
        rintro e w6 ⟨u, rfl, hA, hb6⟩
        replace HBT := Lib.hid (bthen HBT.out hb6 (Nat.le_refl _))
        obtain ⟨A13, c13, rfl, _, _⟩ := hA.form' (n := VS.length) rfl
        have HA := Lib.hid hA; clear hA hb6
        by_cases hc : CD = 0
        · subst hc
          have hgd := HGD.out rfl
          have hP := fun A c w h => put_any k A VS.length c VS w h HVF.out
          rw [hgd.1, hgd.2] at hP
          have HP2 := Lib.hid hP; clear hP hgd HGD
          go_wp2_with (first | (go_at_call 13; refine (Nums.num_any _ _).mono ?_; rintro e w' ⟨rfl, rfl⟩) | (go_at_call 22; (with_reducible refine (HP2.out _ _ _ (HA.out.sl rfl)).mono ?_); rintro e w7 ⟨rfl, hb7⟩; replace HBT := Lib.hid (bthen HBT.out hb7 (Nat.le_refl _)); clear hb7))
          go_ret
          exact ⟨rfl, HBT.out⟩
        · have hv0 := HGN.out hc
          have hl0 : VS.length = 0 := by rw [hv0]; rfl
          have hcd : (CD != 0) = true := by simpa using hc
          clear hc HGD HGN HVF
          go_wp2_with (go_at_call 13; refine (Nums.num_any _ _).mono ?_; rintro e w' ⟨rfl, rfl⟩)
          go_ret
          exact ⟨rfl, HBT.out⟩
  · have hne : ((((mayErr k vs : Nat) : Int)) == 0) = false := by simpa using hm
    generalize ((mayErr k vs : Nat) : Int) = E at *
    generalize str (put k vs) = P at *
    clear hm
    have HP := Lib.hid hP; clear hP
    have H0 := Lib.hid h0; clear h0 hlen
    have HBT := Lib.hid (Below.refl w.heap.size w)
    go_enter Try.func7, Try.ntmps7
    go_wp2_with fail
    refine (awake_any _).mono ?_
    rintro e w1 ⟨rfl, hb1⟩
    replace HBT := Lib.hid (bthen HBT.out hb1 (Nat.le_refl _))
    replace H0 := Lib.hid (H0.out.below hb1)
    clear hb1
    go_wp2_with fail
    refine (HP.out _ _ _ H0.out.sl).mono ?_
    rintro e w2 ⟨rfl, hb2⟩
    replace HBT := Lib.hid (bthen HBT.out hb2 (Nat.le_refl _))
    clear hb2 H0 HP
    go_wp2_with fail
    refine (Nums.num_any _ _).mono ?_
    rintro e w' ⟨rfl, rfl⟩
    go_wp2_with (go_at_call 18; refine (HS.out _).mono ?_; rintro e w5 ⟨rfl, hb5⟩; replace HBT := Lib.hid (bthen HBT.out hb5 (Nat.le_refl _)); clear hb5)
    go_wp2_with fail
    refine (HG.out _).mono ?_
    rintro e w6 ⟨u, rfl, hA, hb6⟩
    replace HBT := Lib.hid (bthen HBT.out hb6 (Nat.le_refl _))
    obtain ⟨A13, c13, rfl, _, _⟩ := hA.form' (n := VS.length) rfl
    have HA := Lib.hid hA; clear hA hb6
    by_cases hc : CD = 0
    · subst hc
      have hgd := HGD.out rfl
      have hP := fun A c w h => put_any k A VS.length c VS w h HVF.out
      rw [hgd.1, hgd.2] at hP
      have HP2 := Lib.hid hP; clear hP hgd HGD
      go_wp2_with (first | (go_at_call 13; refine (Nums.num_any _ _).mono ?_; rintro e w' ⟨rfl, rfl⟩) | (go_at_call 22; (with_reducible refine (HP2.out _ _ _ (HA.out.sl rfl)).mono ?_); rintro e w7 ⟨rfl, hb7⟩; replace HBT := Lib.hid (bthen HBT.out hb7 (Nat.le_refl _)); clear hb7))
      go_ret
      exact ⟨rfl, HBT.out⟩
    · have hv0 := HGN.out hc
      have hl0 : VS.length = 0 := by rw [hv0]; rfl
      have hcd : (CD != 0) = true := by simpa using hc
      clear hc HGD HGN HVF
      go_wp2_with (go_at_call 13; refine (Nums.num_any _ _).mono ?_; rintro e w' ⟨rfl, rfl⟩)
      go_ret
      exact ⟨rfl, HBT.out⟩
end Go.Proofs.Ytcfjagbdjnlfoaa.Vec
