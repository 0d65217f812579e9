/-
  THE WALK of words.Build.
-/
import Derived.Test.YtmoabfaimcafjaaMapV
import Derived.Test.YtmoabfaimcafjaaRuns
import Derived.Test.YtmoabfaimcafjaaJoinMath
import Derived.Carry
import Derived.Maps.Own
import Derived.Maps.OwnOps
namespace Go.Proofs.Ytmoabfaimcafjaa.Words
open Go.RowKit ValMath Vals Sl MapV

theorem fine_clean {v : Val} (h : Fine v) : Fine (clean v) := by
  obtain ⟨h1, h2, h3, h4, h5⟩ := h
  have hk := clean_kind v
  have hi := fun (h0 : -9223372036854775808 ≤ v.i ∧ v.i < 9223372036854775808) => show -9223372036854775808 ≤ (clean v).i ∧ (clean v).i < 9223372036854775808 from by
    unfold clean nul
    split
    · exact h0
    · split
      · simp
      · split <;> simp
  have hi2 := hi ⟨h3, h4⟩
  refine ⟨?_, ?_, hi2.1, hi2.2, Nat.le_trans (clean_size v) h5⟩
  · rw [hk]; split <;> omega
  · rw [hk]; split <;> omega
theorem iat_snoc (l : List Nat) (x : Nat) : iat (l ++ [x]) = iat l ++ [(x : Int)] := by simp [iat]
theorem iat_length (l : List Nat) : (iat l).length = l.length := by simp [iat]
theorem add_known {s : List Val × List Nat} {v : Val} (h : clean v ∈ s.1) : addW s v = (s.1, s.2 ++ [place s.1 (clean v)]) := by unfold addW; rw [if_pos (place_lt.2 h)]
theorem place_new {ws : List Val} {u : Val} (h : u ∉ ws) : place ws u = ws.length := by
  have h1 := place_le ws u
  have h2 : ¬ place ws u < ws.length := fun h3 => h (place_lt.1 h3)
  omega
theorem add_new {s : List Val × List Nat} {v : Val} (h : clean v ∉ s.1) : addW s v = (s.1 ++ [clean v], s.2 ++ [s.1.length]) := by
  unfold addW; rw [if_neg (fun h3 => h (place_lt.1 h3)), place_new h]

set_option maxRecDepth 100000 in
set_option maxHeartbeats 8000000 in
theorem build_any (A : Option Addr) (n c : Nat) (vs : List Val) (w : World) (hv : VSl w A n vs) (hn : n * 40 ≤ 140737488355280) (hf : ∀ v ∈ vs, Fine v) :
    Calls Try.prog 24 #[.slice A n c] w fun e w' => ∃ u1 u2, e = .returned (.tuple #[u1, u2]) ∧ OwnV w' w.heap.size u1 (build vs).1 ∧ OwnI w' w.heap.size u2 (iat (build vs).2) ∧ Below w.heap.size w w' := by
  have hlen := hv.1
  have HF := Lib.hid (And.intro hf hlen); clear hf hlen
  have hmm := @run_makeMap Try.prog
  go_enter Try.func24, Try.ntmps24
  go_wp2
  go_loopw [5, 6, 14] (fun pv qv iv wr => ∃ k m : Nat, k ≤ n ∧ m ≤ k ∧ iv = .int .i64 k ∧ OwnV wr w.heap.size pv (build (vs.take k)).1 ∧ OwnI wr w.heap.size qv (iat (build (vs.take k)).2) ∧ Places wr w.heap.size m (build (vs.take k)).1 ∧ Below w.heap.size w wr) (fun _ _ iv _ => n - (intOf iv).toNat)
  case atStart => exact ⟨0, 0, Nat.zero_le _, Nat.zero_le _, rfl, OwnV.nil _ _, OwnI.nil _ _, Places.made w, Vals.one_new _⟩
  case round =>
    obtain ⟨k, m, hk, hm, rfl, hV, hI, hP, hb⟩ := hrel
    have hw1 := build_ws_length (vs.take k)
    have hw2 := build_at_length (vs.take k)
    have hlk : (vs.take k).length ≤ k := List.length_take_le _ _
    by_cases hkn : k < n
    · obtain ⟨b1, o1, v, hv1, rfl, hb1, c0, c1, c2, c3⟩ := (hv.below hb).at_ hkn
      have hts : build (vs.take (k + 1)) = addW (build (vs.take k)) v := by rw [take_more hv1, build_snoc]
      have hfu := fine_clean (HF.out.1 v (List.mem_of_getElem? hv1))
      have hp := plain_any v
      have hk1 := add_known (s := build (vs.take k)) (v := v)
      have hk2 := add_new (s := build (vs.take k)) (v := v)
      rw [← hts] at hk1 hk2
      obtain ⟨A5, c5, rfl, _, _⟩ := hV.form' (n := (build (vs.take k)).1.length) rfl
      generalize build (vs.take k) = S at *
      obtain ⟨W, P⟩ := S
      simp only [] at hV hI hP hw1 hw2 hk1 hk2
      generalize clean v = u at *
      have hszr := hb.size
      have hnb : ∀ {z m : Nat} {e : TypeId} {v : Value} {xs : List Value}, wr.ownsRow w.heap.size e z v m xs → v.ownBlock ≠ some wr.heap.size := fun h => own_lt h (Nat.le_refl _)
      have hnV : (Value.slice A5 W.length c5).ownBlock ≠ some wr.heap.size := hnb hV
      have hnI : u6.ownBlock ≠ some wr.heap.size := hnb hI
      have hmlt := hP.lt
      have hflV : W.length < few := by unfold few; omega
      have hflI : (iat P).length < few := by rw [iat_length]; unfold few; omega
      have HV := Lib.hid hV; clear hV
      have HI := Lib.hid hI; clear hI
      have HP := Lib.hid hP; clear hP
      have HFL := Lib.hid (And.intro hflV hflI); clear hflV hflI hnb hts
      have HFU := Lib.hid hfu; clear hfu
      by_cases hmem : u ∈ W
      · have e := hk1 hmem
        have HE := Lib.hid (show build (vs.take (k + 1)) = (W, P ++ [place W u]) from e)
        have hd : decide (u ∈ W) = true := decide_eq_true hmem
        have hpn := place_le W u
        have HMEM := Lib.hid hmem
        clear hk1 hk2 e hv1 hmem
        obtain ⟨pk, hpk⟩ : ∃ pk, pk = place W u := ⟨_, rfl⟩
        rw [← hpk] at HE hpn
        have HPK := Lib.hid hpk; clear hpk
        obtain ⟨kv, iv, bv, sv⟩ := v
        have hud : ∀ x : Val, decide (x ∈ W) = decide (x ∈ W) := fun _ => rfl
        clear hud
        obtain ⟨ku, iu, bu, su⟩ := u
        simp only [vagg] at c0 c1 c2 c3 hp
        have HPL := Lib.hid hp; clear hp
        go_wp2_with (first
          | (go_at_call 63; (with_reducible refine (HPL.out _).mono ?_); rintro e w1 ⟨rfl, hb2⟩; have HB1 := Lib.hid ((Box.new wr ⟨kv, iv, bv, sv⟩).below hb2); have HV1 := Lib.hid ((HV.out.alloc (.cells #[.int .i64 kv, .int .i64 iv, .bool bv, .string sv] 38)).below hb2); have HI1 := Lib.hid ((HI.out.alloc (.cells #[.int .i64 kv, .int .i64 iv, .bool bv, .string sv] 38)).below hb2); have HP1 := Lib.hid ((HP.out.alloc (.cells #[.int .i64 kv, .int .i64 iv, .bool bv, .string sv] 38)).below hb2); have HBT1 := Lib.hid (bthen (hb.alloc hb.size (.cells #[.int .i64 kv, .int .i64 iv, .bool bv, .string sv] 38)) hb2 (Nat.le_refl _)); clear hb2)
          | (refine wpList_store_val rfl (.tmp 8) (.tmp 19) rfl wr.heap.size ⟨ku, iu, bu, su⟩ ⟨kv, iv, bv, sv⟩ rfl rfl HB1.out ?_; intro wq hBq hgq hsq; have HBq := Lib.hid hBq; have HVq := Lib.hid (HV1.out.keepB hgq hnV); have HIq := Lib.hid (HI1.out.keepB hgq hnI); have HPq := Lib.hid (HP1.out.kept hgq (by simp; omega)); have HBTq := Lib.hid (HBT1.out.grown hgq HBT1.out.size (fun j hj => by simp at hj; omega)); clear hgq hBq hsq; have hszq := HBTq.out.size; obtain ⟨y0, y1, y2, y3⟩ := HBq.out.cells; (try simp only [] at y0 y1 y2 y3))
          | (at_lookup; (refine wpList_places_look rfl (.tmp 21) (.tmp 22) rfl w.heap.size m W ⟨ku, iu, bu, su⟩ rfl HPq.out rfl HFU.out ?_; intro cc hcc; rw [hd]); (have hcc2 : cc = (pk : Int) := by (rw [HPK.out]; exact hcc HMEM.out)); (clear hcc; subst hcc2))
          | (at_builtin; ((refine wpList_push_int (t := 3) (fr := (0, 0)) rfl (.tmp 37) (.tmp 39) rfl w.heap.size u6 (iat P) (pk : Int) wq.heap.size 1 rfl rfl (heap_alloc_new wq (.cells #[.int .i64 (pk : Int)] 3)) (HIq.out.alloc (.cells #[.int .i64 (pk : Int)] 3)) HFL.out.2 (Below.size (HBTq.out.alloc HBTq.out.size (.cells #[.int .i64 (pk : Int)] 3))) ?_; intro u2 wB hI2 hgB hatB)); ((have hV2 := (HVq.out.alloc (.cells #[.int .i64 (pk : Int)] 3)).keepI (HIq.out.alloc _) hgB)); ((have hP2 := (HPq.out.alloc (.cells #[.int .i64 (pk : Int)] 3)).kept hgB (HPq.out.no_row HIq.out))); ((have hbB := (HBTq.out.alloc HBTq.out.size (.cells #[.int .i64 (pk : Int)] 3)).grown hgB (Below.size (HBTq.out.alloc HBTq.out.size _)) (own_base HIq.out))); ((have HR := Lib.hid (And.intro hI2 (And.intro hV2 (And.intro hP2 hbB))))); ((clear hI2 hV2 hP2 hbB))))
        go_roundw
        case rel => exact ⟨k + 1, m, by omega, by omega, by go_num, by rw [HE.out]; exact HR.out.2.1, by rw [HE.out, iat_snoc]; exact HR.out.1, by rw [HE.out]; exact HR.out.2.2.1, HR.out.2.2.2⟩
        case measure => simp [intOf]; omega
      · have e := hk2 hmem
        have HE := Lib.hid (show build (vs.take (k + 1)) = (W ++ [u], P ++ [W.length]) from e)
        have hd : decide (u ∈ W) = false := decide_eq_false hmem
        have HNEW := Lib.hid hmem
        have hWm : W.length < maxLen := by unfold maxLen; omega
        have hmm2 : m < maxLen := by unfold maxLen; omega
        have HM := Lib.hid (And.intro hWm hmm2); clear hWm hmm2
        clear hk1 hk2 e hv1 hmem
        obtain ⟨kv, iv, bv, sv⟩ := v
        obtain ⟨ku, iu, bu, su⟩ := u
        simp only [vagg] at c0 c1 c2 c3 hp
        have HPL := Lib.hid hp; clear hp
        go_wp2_with (first
          | (go_at_call 63; (with_reducible refine (HPL.out _).mono ?_); rintro e w1 ⟨rfl, hb2⟩; have HB1 := Lib.hid ((Box.new wr ⟨kv, iv, bv, sv⟩).below hb2); have HV1 := Lib.hid ((HV.out.alloc (.cells #[.int .i64 kv, .int .i64 iv, .bool bv, .string sv] 38)).below hb2); have HI1 := Lib.hid ((HI.out.alloc (.cells #[.int .i64 kv, .int .i64 iv, .bool bv, .string sv] 38)).below hb2); have HP1 := Lib.hid ((HP.out.alloc (.cells #[.int .i64 kv, .int .i64 iv, .bool bv, .string sv] 38)).below hb2); have HBT1 := Lib.hid (bthen (hb.alloc hb.size (.cells #[.int .i64 kv, .int .i64 iv, .bool bv, .string sv] 38)) hb2 (Nat.le_refl _)); clear hb2)
          | (refine wpList_store_val rfl (.tmp 8) (.tmp 19) rfl wr.heap.size ⟨ku, iu, bu, su⟩ ⟨kv, iv, bv, sv⟩ rfl rfl HB1.out ?_; intro wq hBq hgq hsq; have HBq := Lib.hid hBq; have HVq := Lib.hid (HV1.out.keepB hgq hnV); have HIq := Lib.hid (HI1.out.keepB hgq hnI); have HPq := Lib.hid (HP1.out.kept hgq (by simp; omega)); have HBTq := Lib.hid (HBT1.out.grown hgq HBT1.out.size (fun j hj => by simp at hj; omega)); clear hgq hBq hsq; have hszq := HBTq.out.size; obtain ⟨y0, y1, y2, y3⟩ := HBq.out.cells; (try simp only [] at y0 y1 y2 y3))
          | (at_lookup; (refine wpList_places_look rfl (.tmp 21) (.tmp 22) rfl w.heap.size m W ⟨ku, iu, bu, su⟩ rfl HPq.out rfl HFU.out ?_; intro cc hcc; rw [hd]; clear hcc))
          | (at_mapUpdate; (refine wpList_places_put rfl (.tmp 30) (.tmp 31) (.tmp 32) rfl w.heap.size m W ⟨ku, iu, bu, su⟩ rfl HPq.out HM.out.2 rfl HFU.out HNEW.out W.length rfl HM.out.1 rfl ?_; intro wm hPm hgm); (have HPm := Lib.hid hPm; have HVm := Lib.hid (HVq.out.keepB hgm (Ne.symm (HPq.out.no_row HVq.out))); have HIm := Lib.hid (HIq.out.keepB hgm (Ne.symm (HPq.out.no_row HIq.out))); have HBTm := Lib.hid (HBTq.out.grown hgm HBTq.out.size (fun j hj => by simp at hj; omega)); have hszm := HBTm.out.size; have HBm := Lib.hid (HBq.out.grown hgm (by simp; omega)); obtain ⟨z0, z1, z2, z3⟩ := HBm.out.cells; (try simp only [] at z0 z1 z2 z3); clear hPm hgm))
          | (at_builtin; ((refine wpList_push_val (t := 38) (fr := (0, 0)) rfl (.tmp 33) (.tmp 35) rfl w.heap.size (.slice A5 W.length c5) W ⟨ku, iu, bu, su⟩ wm.heap.size 1 rfl rfl (heap_alloc_new wm (.cells #[.int .i64 ku, .int .i64 iu, .bool bu, .string su] 38)) (HVm.out.alloc (.cells #[.int .i64 ku, .int .i64 iu, .bool bu, .string su] 38)) HFL.out.1 (Below.size (HBTm.out.alloc HBTm.out.size (.cells #[.int .i64 ku, .int .i64 iu, .bool bu, .string su] 38))) ?_; intro u1 wV hV2 hgV hatV)); ((have HI3 := Lib.hid ((HIm.out.alloc (.cells #[.int .i64 ku, .int .i64 iu, .bool bu, .string su] 38)).keepV (HVm.out.alloc _) hgV))); ((have HP3 := Lib.hid ((HPm.out.alloc (.cells #[.int .i64 ku, .int .i64 iu, .bool bu, .string su] 38)).kept hgV (HPm.out.no_row HVm.out)))); ((have HB3 := Lib.hid ((HBTm.out.alloc HBTm.out.size (.cells #[.int .i64 ku, .int .i64 iu, .bool bu, .string su] 38)).grown hgV (Below.size (HBTm.out.alloc HBTm.out.size _)) (own_base HVm.out)))); ((have HV3 := Lib.hid hV2)); ((have hszV := HB3.out.size)); ((clear hV2 hgV hatV)))
          | (at_builtin; ((refine wpList_push_int (t := 3) (fr := (0, 0)) rfl (.tmp 37) (.tmp 39) rfl w.heap.size u6 (iat P) (W.length : Int) wV.heap.size 1 rfl rfl (heap_alloc_new wV (.cells #[.int .i64 (W.length : Int)] 3)) (HI3.out.alloc (.cells #[.int .i64 (W.length : Int)] 3)) HFL.out.2 (Below.size (HB3.out.alloc HB3.out.size (.cells #[.int .i64 (W.length : Int)] 3))) ?_; intro u2 wB hI2 hgB hatB)); ((have hV2 := (HV3.out.alloc (.cells #[.int .i64 (W.length : Int)] 3)).keepI (HI3.out.alloc _) hgB)); ((have hP2 := (HP3.out.alloc (.cells #[.int .i64 (W.length : Int)] 3)).kept hgB (HP3.out.no_row HI3.out))); ((have hbB := (HB3.out.alloc HB3.out.size (.cells #[.int .i64 (W.length : Int)] 3)).grown hgB (Below.size (HB3.out.alloc HB3.out.size _)) (own_base HI3.out))); ((have HR := Lib.hid (And.intro hI2 (And.intro hV2 (And.intro hP2 hbB))))); ((clear hI2 hV2 hP2 hbB))))
        go_roundw
        case rel => exact ⟨k + 1, m + 1, by omega, by omega, by go_num, by rw [HE.out]; exact HR.out.2.1, by rw [HE.out, iat_snoc]; exact HR.out.1, by rw [HE.out]; exact HR.out.2.2.1, HR.out.2.2.2⟩
        case measure => simp [intOf]; omega
    · obtain rfl : n = k := by omega
      have htk : vs.take n = vs := List.take_of_length_le (by rw [HF.out.2]; exact Nat.le_refl _)
      rw [htk] at hV hI
      have HV := Lib.hid hV; clear hV
      have HI := Lib.hid hI; clear hI hP
      go_wp2
      go_ret2
      exact ⟨_, _, rfl, HV.out, HI.out, hb⟩
end Go.Proofs.Ytmoabfaimcafjaa.Words
