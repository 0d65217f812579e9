/-
  THE WALK of words.Look.
-/
import Derived.Test.YtmoabfaimcafjaaWordProg
namespace Go.Proofs.Ytmoabfaimcafjaa.Words
open Go.RowKit ValMath Vals Sl MapV

def lookVals (ws : List Val) (ks : List Int) : List Val := (ValMath.look ws ks).getD []
def lookCode (ws : List Val) (ks : List Int) : Int := if (ValMath.look ws ks).isSome then 0 else 800
/-- What one place gives. -/
def lookAt (ws : List Val) (a : Int) : Val := clean (ws.getD a.toNat nul)
theorem look_none {ws : List Val} {ks : List Int} (h : ValMath.look ws ks = none) : lookVals ws ks = [] ∧ lookCode ws ks = 800 := by unfold lookVals lookCode; rw [h]; exact ⟨rfl, rfl⟩
theorem look_some {ws : List Val} {ks : List Int} {out : List Val} (h : ValMath.look ws ks = some out) : lookVals ws ks = out ∧ lookCode ws ks = 0 := by unfold lookVals lookCode; rw [h]; exact ⟨rfl, rfl⟩
theorem look_dup {ws : List Val} {ks : List Int} (h : ¬ (ws.map clean).Nodup) : lookVals ws ks = [] ∧ lookCode ws ks = 800 := look_none (by unfold ValMath.look; rw [if_neg (fun h2 => h h2.1)])
theorem look_out {ws : List Val} {ks : List Int} {a : Int} (h : a ∈ ks) (h2 : ¬ (0 ≤ a ∧ a < (ws.length : Int))) : lookVals ws ks = [] ∧ lookCode ws ks = 800 := look_none (by unfold ValMath.look; rw [if_neg (fun h3 => h2 (h3.2 a h))])
theorem look_all {ws : List Val} {ks : List Int} (h : (ws.map clean).Nodup) (h2 : ∀ a ∈ ks, 0 ≤ a ∧ a < (ws.length : Int)) : lookVals ws ks = ks.map (lookAt ws) ∧ lookCode ws ks = 0 := look_some (by unfold ValMath.look; rw [if_pos ⟨h, h2⟩]; rfl)
theorem take_nodup {ws : List Val} {k : Nat} {v : Val} (h : ws[k]? = some v) (h2 : clean v ∈ (ws.take k).map clean) : ¬ (ws.map clean).Nodup := by
  intro hn
  have e : ws.map clean = (ws.take k).map clean ++ (ws.drop k).map clean := by rw [← List.map_append, List.take_append_drop]
  rw [e, List.nodup_append] at hn
  refine hn.2.2 _ h2 (clean v) ?_ rfl
  refine List.mem_map_of_mem ?_
  have hl : k < ws.length := by
    rcases Nat.lt_or_ge k ws.length with h3 | h3
    · exact h3
    · rw [List.getElem?_eq_none h3] at h; cases h
  rw [List.mem_iff_getElem?]
  exact ⟨0, by rw [List.getElem?_drop]; exact h⟩
theorem nodup_snoc {l : List Val} {u : Val} (h : l.Nodup) (h2 : u ∉ l) : (l ++ [u]).Nodup := by
  rw [List.nodup_append]
  refine ⟨h, by simp, fun a ha b hb => ?_⟩
  simp at hb; subst hb
  intro e; subst e; exact h2 ha
theorem ret_vi {u : Value} {k : IntKind} {a b : Int} (h : a = b) : Ending.returned (.tuple #[u, .int k a]) = .returned (.tuple #[u, .int k b]) := by rw [h]
theorem take_int {l : List Int} {k : Nat} {x : Int} (h : l[k]? = some x) : l.take (k + 1) = l.take k ++ [x] := by rw [List.take_add_one, h]; rfl

set_option maxRecDepth 100000 in
set_option maxHeartbeats 8000000 in
theorem look_any (A C : Option Addr) (n c m d : Nat) (ws : List Val) (ks : List Int) (w : World) (hv : VSl w A n ws) (hx : ISl w C m ks) (hn : n * 40 ≤ 140737488355280) (hm : m * 40 ≤ 140737488355280) (hf : ∀ v ∈ ws, Fine v) :
    Calls Try.prog 26 #[.slice A n c, .slice C m d] w fun e w' => ∃ u, e = .returned (.tuple #[u, .int .i64 (lookCode ws ks)]) ∧ OwnV w' w.heap.size u (lookVals ws ks) ∧ Below w.heap.size w w' := by
  have hwl := hv.1
  have hkl := hx.1
  have HF := Lib.hid (And.intro hf (And.intro hwl hkl)); clear hf hwl hkl
  have hmm := @run_makeMap Try.prog
  go_enter Try.func26, Try.ntmps26
  go_wp2
  go_loopw [15] (fun iv wr => ∃ k : Nat, k ≤ n ∧ iv = .int .i64 k ∧ ((ws.take k).map clean).Nodup ∧ Seen wr w.heap.size k ((ws.take k).map clean) ∧ Below w.heap.size w wr) (fun iv _ => n - (intOf iv).toNat)
  case atStart => exact ⟨0, Nat.zero_le _, rfl, by simp, Seen.made w, Vals.one_new _⟩
  case round =>
    obtain ⟨k, hk, rfl, hN, hP, hb⟩ := hrel
    by_cases hkn : k < n
    · obtain ⟨b1, o1, v, hv1, rfl, hb1, c0, c1, c2, c3⟩ := (hv.below hb).at_ hkn
      have hts : (ws.take (k + 1)).map clean = (ws.take k).map clean ++ [clean v] := by rw [take_more hv1, List.map_append]; rfl
      have hfu := fine_clean (HF.out.1 v (List.mem_of_getElem? hv1))
      have hp := plain_any v
      have hdup := fun h => look_dup (ks := ks) (take_nodup hv1 h)
      have HTS := Lib.hid hts; clear hts hv1
      generalize (ws.take k).map clean = W at *
      generalize hu : clean v = u at *
      have HU := Lib.hid hu; clear hu
      have hszr := hb.size
      have hmlt := hP.lt
      have HP := Lib.hid hP; clear hP
      have HFU := Lib.hid hfu; clear hfu
      have HN := Lib.hid hN; clear hN
      have hkm : k < maxLen := by unfold maxLen; omega
      have HKM := Lib.hid hkm; clear hkm
      by_cases hmem : u ∈ W
      · have HB := Lib.hid (hdup hmem)
        have hd : decide (u ∈ W) = true := decide_eq_true hmem
        clear hdup hmem
        obtain ⟨kv, iv, bv, sv⟩ := v
        obtain ⟨ku, iu, bu, su⟩ := u
        simp only [vagg] at c0 c1 c2 c3 hp
        have HPL := Lib.hid hp; clear hp
        go_wp2_with (first
          | (go_at_call 63; (with_reducible refine (HPL.out _).mono ?_); rintro e w1 ⟨rfl, hb2⟩; have HB1 := Lib.hid ((Box.new wr ⟨kv, iv, bv, sv⟩).below hb2); have HP1 := Lib.hid ((HP.out.alloc (.cells #[.int .i64 kv, .int .i64 iv, .bool bv, .string sv] 38)).below hb2); have HBT1 := Lib.hid (bthen (hb.alloc hb.size (.cells #[.int .i64 kv, .int .i64 iv, .bool bv, .string sv] 38)) hb2 (Nat.le_refl _)); clear hb2)
          | (refine wpList_store_val rfl (.tmp 8) (.tmp 20) rfl wr.heap.size ⟨ku, iu, bu, su⟩ ⟨kv, iv, bv, sv⟩ rfl rfl HB1.out ?_; intro wq hBq hgq hsq; have HBq := Lib.hid hBq; have HPq := Lib.hid (HP1.out.kept hgq (by simp; omega)); have HBTq := Lib.hid (HBT1.out.grown hgq HBT1.out.size (fun j hj => by simp at hj; omega)); clear hgq hBq hsq; have hszq := HBTq.out.size; obtain ⟨y0, y1, y2, y3⟩ := HBq.out.cells; (try simp only [] at y0 y1 y2 y3))
          | (at_lookup; refine wpList_seen_look rfl (.tmp 21) (.tmp 22) rfl w.heap.size k W ⟨ku, iu, bu, su⟩ rfl HPq.out rfl HFU.out ?_; rw [hd]))
        go_ret2
        exact ⟨_, ret_vi HB.out.2.symm, by rw [HB.out.1]; exact OwnV.nil _ _, HBTq.out⟩
      · have HNN := Lib.hid (nodup_snoc HN.out hmem)
        have hd : decide (u ∈ W) = false := decide_eq_false hmem
        clear hdup hmem
        obtain ⟨kv, iv, bv, sv⟩ := v
        obtain ⟨ku, iu, bu, su⟩ := u
        simp only [vagg] at c0 c1 c2 c3 hp
        have HPL := Lib.hid hp; clear hp
        go_wp2_with (first
          | (go_at_call 63; (with_reducible refine (HPL.out _).mono ?_); rintro e w1 ⟨rfl, hb2⟩; have HB1 := Lib.hid ((Box.new wr ⟨kv, iv, bv, sv⟩).below hb2); have HP1 := Lib.hid ((HP.out.alloc (.cells #[.int .i64 kv, .int .i64 iv, .bool bv, .string sv] 38)).below hb2); have HBT1 := Lib.hid (bthen (hb.alloc hb.size (.cells #[.int .i64 kv, .int .i64 iv, .bool bv, .string sv] 38)) hb2 (Nat.le_refl _)); clear hb2)
          | (refine wpList_store_val rfl (.tmp 8) (.tmp 20) rfl wr.heap.size ⟨ku, iu, bu, su⟩ ⟨kv, iv, bv, sv⟩ rfl rfl HB1.out ?_; intro wq hBq hgq hsq; have HBq := Lib.hid hBq; have HPq := Lib.hid (HP1.out.kept hgq (by simp; omega)); have HBTq := Lib.hid (HBT1.out.grown hgq HBT1.out.size (fun j hj => by simp at hj; omega)); clear hgq hBq hsq; have hszq := HBTq.out.size; obtain ⟨y0, y1, y2, y3⟩ := HBq.out.cells; (try simp only [] at y0 y1 y2 y3))
          | (at_lookup; refine wpList_seen_look rfl (.tmp 21) (.tmp 22) rfl w.heap.size k W ⟨ku, iu, bu, su⟩ rfl HPq.out rfl HFU.out ?_; rw [hd])
          | (at_mapUpdate; refine wpList_seen_put rfl (.tmp 24) (.tmp 25) (.const (.bool true)) rfl w.heap.size k W ⟨ku, iu, bu, su⟩ rfl HPq.out HKM.out rfl HFU.out rfl ?_; intro wm hPm hgm; have HR := Lib.hid (And.intro hPm (HBTq.out.grown hgm HBTq.out.size (fun j hj => by simp at hj; omega))); clear hPm hgm))
        go_roundw
        case rel => exact ⟨k + 1, by omega, by go_num, by rw [HTS.out]; exact HNN.out, by rw [HTS.out]; exact HR.out.1, HR.out.2⟩
        case measure => simp [intOf]; omega
    · obtain rfl : n = k := by omega
      have htk : ws.take n = ws := List.take_of_length_le (by rw [HF.out.2.1]; exact Nat.le_refl _)
      rw [htk] at hN
      have HN := Lib.hid hN; clear hN hP htk
      go_wp2
      obtain ⟨wo, hwo⟩ : ∃ wo : World, wo = wr := ⟨_, rfl⟩
      go_loopw [9, 29] (fun uv iv wr => ∃ k : Nat, k ≤ m ∧ iv = .int .i64 k ∧ OwnV wr w.heap.size uv ((ks.take k).map (lookAt ws)) ∧ (∀ a ∈ ks.take k, 0 ≤ a ∧ a < (n : Int)) ∧ Below w.heap.size w wr) (fun _ iv _ => m - (intOf iv).toNat)
      case atStart => exact ⟨0, Nat.zero_le _, rfl, OwnV.nil _ _, by simp, hb⟩
      case round =>
        clear hb hwo
        obtain ⟨k, hk, rfl, hO, hA, hb⟩ := hrel
        have hszr := hb.size
        have hml : ((ks.take k).map (lookAt ws)).length = k := by rw [List.length_map, List.length_take, HF.out.2.2]; omega
        obtain ⟨A9, c9, rfl, _, _⟩ := hO.form' (n := k) hml
        by_cases hkm : k < m
        · obtain ⟨b2, o2, a, ha1, rfl, hb2, a0⟩ := (hx.below hb).at_ hkm
          have hts : (ks.take (k + 1)).map (lookAt ws) = (ks.take k).map (lookAt ws) ++ [lookAt ws a] := by rw [take_int ha1, List.map_append]; rfl
          have hta := take_int ha1
          have hmem : a ∈ ks := List.mem_of_getElem? ha1
          have hout := fun h => look_out (ws := ws) hmem h
          rw [HF.out.2.1] at hout
          have HTS := Lib.hid (And.intro hts hta); clear hts hta ha1 hmem
          generalize (ks.take k).map (lookAt ws) = O at *
          have hfl : O.length < few := by rw [hml]; unfold few; omega
          have HFL := Lib.hid (And.intro hfl hml); clear hfl hml
          have HO := Lib.hid hO; clear hO
          have HA := Lib.hid hA; clear hA
          by_cases ha : a < 0
          · have HB := Lib.hid (hout (by omega))
            have hd1 : decide (a < 0) = true := decide_eq_true ha
            clear hout
            go_wp2
            go_ret2
            exact ⟨_, ret_vi HB.out.2.symm, by rw [HB.out.1]; exact OwnV.nil _ _, hb⟩
          · obtain ⟨p, rfl⟩ : ∃ p : Nat, a = p := ⟨a.toNat, by omega⟩
            have hd1 : decide ((p : Int) < 0) = false := decide_eq_false ha
            by_cases hpn : p < n
            · have hd2 : decide ((n : Int) ≤ (p : Int)) = false := decide_eq_false (by omega)
              obtain ⟨b1, o1, v, hv1, rfl, hb1, c0, c1, c2, c3⟩ := (hv.below hb).at_ hpn
              have hlv : lookAt ws (p : Int) = clean v := by unfold lookAt; rw [Int.toNat_natCast, List.getD_eq_getElem?_getD, hv1]; rfl
              have hp := plain_any v
              rw [hlv] at HTS
              generalize clean v = u at *
              clear hv1 hlv hout
              obtain ⟨kv, iv, bv, sv⟩ := v
              obtain ⟨ku, iu, bu, su⟩ := u
              simp only [vagg] at c0 c1 c2 c3 hp
              have HPL := Lib.hid hp; clear hp
              go_wp2_with (first
                | (go_at_call 63; (with_reducible refine (HPL.out _).mono ?_); rintro e w1 ⟨rfl, hb2⟩; have HO1 := Lib.hid (HO.out.below hb2); have HBT1 := Lib.hid (bthen hb hb2 (Nat.le_refl _)); clear hb2)
                | (at_builtin; (refine wpList_push_val rfl (.tmp 41) (.tmp 47) rfl w.heap.size (.slice A9 k c9) O ⟨ku, iu, bu, su⟩ w1.heap.size 1 rfl rfl (t := 38) (fr := (0, 0)) (heap_alloc_new w1 (.cells #[.int .i64 ku, .int .i64 iu, .bool bu, .string su] 38)) (HO1.out.alloc (.cells #[.int .i64 ku, .int .i64 iu, .bool bu, .string su] 38)) HFL.out.1 (Below.size (HBT1.out.alloc HBT1.out.size (.cells #[.int .i64 ku, .int .i64 iu, .bool bu, .string su] 38))) ?_; intro u2 wB hI2 hgB hatB); (have hbB := (HBT1.out.alloc HBT1.out.size (.cells #[.int .i64 ku, .int .i64 iu, .bool bu, .string su] 38)).grown hgB (Below.size (HBT1.out.alloc HBT1.out.size (.cells #[.int .i64 ku, .int .i64 iu, .bool bu, .string su] 38))) (own_base HO1.out)); have HR := Lib.hid (And.intro hI2 hbB); clear hI2 hgB hatB hbB))
              go_roundw
              case rel => exact ⟨k + 1, by omega, by go_num, by rw [HTS.out.1]; exact HR.out.1, by rw [HTS.out.2]; intro a ha; rw [List.mem_append] at ha; rcases ha with ha | ha; exact HA.out a ha; (simp at ha; subst ha; omega), HR.out.2⟩
              case measure => simp [intOf]; omega
            · have HB := Lib.hid (hout (by omega))
              have hd2 : decide ((n : Int) ≤ (p : Int)) = true := decide_eq_true (by omega)
              clear hout
              go_wp2
              go_ret2
              exact ⟨_, ret_vi HB.out.2.symm, by rw [HB.out.1]; exact OwnV.nil _ _, hb⟩
        · obtain rfl : m = k := by omega
          have htk : ks.take m = ks := List.take_of_length_le (by rw [HF.out.2.2]; exact Nat.le_refl _)
          rw [htk] at hO hA
          have HB := Lib.hid (look_all HN.out (by rw [HF.out.2.1]; exact hA))
          have HO := Lib.hid hO; clear hO hA hml
          go_wp2
          go_ret2
          exact ⟨_, ret_vi HB.out.2.symm, by rw [HB.out.1]; exact HO.out, hb⟩
end Go.Proofs.Ytmoabfaimcafjaa.Words
