/-
  THE WALK of AggRows.
-/
import Derived.Test.YtkkpcdpoldjmkaaAggLaws
import Derived.Test.YtkkpcdpoldjmkaaCrcLaws
namespace Go.Proofs.Ytkkpcdpoldjmkaa.Agg
open Go.RowKit ValMath Vals Sl Stats Mem

/-- The values from another place on. -/
def rot (vs : List Val) (t k : Nat) : List Val := (List.range k).map fun i => vs.getD ((i + t) % vs.length) nul
theorem rot_length (vs : List Val) (t k : Nat) : (rot vs t k).length = k := by simp [rot]
theorem rot_succ (vs : List Val) (t k : Nat) : rot vs t (k + 1) = rot vs t k ++ [vs.getD ((k + t) % vs.length) nul] := by unfold rot; rw [List.range_succ, List.map_append]; rfl
theorem rot_all {vs : List Val} {t : Nat} (ht : t ≤ vs.length) : rot vs t vs.length = vs.drop t ++ vs.take t := by
  refine List.ext_getElem (by rw [rot_length, List.length_append, List.length_drop, List.length_take]; omega) fun i h1 h2 => ?_
  rw [rot_length] at h1
  simp only [rot, List.getElem_map, List.getElem_range]
  by_cases h : i < vs.length - t
  · rw [List.getElem_append_left (by rw [List.length_drop]; exact h), List.getElem_drop, Nat.mod_eq_of_lt (by omega), List.getD_eq_getElem?_getD, List.getElem?_eq_getElem (by omega)]
    simp only [Option.getD_some]; congr 1; omega
  · have e : (i + t) % vs.length = i - (vs.length - t) := by
      rw [show i + t = (i - (vs.length - t)) + vs.length by omega, Nat.add_mod_right, Nat.mod_eq_of_lt (by omega)]
    rw [List.getElem_append_right (by rw [List.length_drop]; omega), List.getElem_take, e, List.getD_eq_getElem?_getD, List.getElem?_eq_getElem (by omega)]
    simp only [Option.getD_some, List.length_drop]
theorem rot_agg {vs : List Val} {t : Nat} (kind : Int) (ht : t ≤ vs.length) : agg kind (rot vs t vs.length) = agg kind vs := by
  rw [rot_all ht, agg_turn, List.take_append_drop]
theorem rot_mem {vs : List Val} {t k : Nat} (h0 : 0 < vs.length) : ∀ v ∈ rot vs t k, v ∈ vs := by
  intro v hv
  simp only [rot, List.mem_map] at hv
  obtain ⟨i, _, rfl⟩ := hv
  rw [List.getD_eq_getElem?_getD, List.getElem?_eq_getElem (Nat.mod_lt _ h0)]
  exact List.getElem_mem _
theorem at4v (w : World) (g : Nat) (hg : w.heap.size = g) (u v x y : Val) (t : TypeId) : VSl (w.alloc (.cells #[.int .i64 u.k, .int .i64 u.i, .bool u.b, .string u.s, .int .i64 v.k, .int .i64 v.i, .bool v.b, .string v.s, .int .i64 x.k, .int .i64 x.i, .bool x.b, .string x.s, .int .i64 y.k, .int .i64 y.i, .bool y.b, .string y.s] t)) (some ⟨g, 0, none⟩) 4 [u, v, x, y] := by
  subst hg
  have h := heap_alloc_new w (.cells #[.int .i64 u.k, .int .i64 u.i, .bool u.b, .string u.s, .int .i64 v.k, .int .i64 v.i, .bool v.b, .string v.s, .int .i64 x.k, .int .i64 x.i, .bool x.b, .string x.s, .int .i64 y.k, .int .i64 y.i, .bool y.b, .string y.s] t)
  refine ⟨rfl, fun _ => ⟨w.heap.size, 0, rfl, by simp, fun i hi => ?_⟩⟩
  have hi2 : i < 4 := by simpa using hi
  match i, hi2 with
  | 0, _ => refine ⟨?_, ?_, ?_, ?_⟩ <;> rw [cell_of_row _ _ _ _ _ _ h] <;> rfl
  | 1, _ => refine ⟨?_, ?_, ?_, ?_⟩ <;> rw [cell_of_row _ _ _ _ _ _ h] <;> rfl
  | 2, _ => refine ⟨?_, ?_, ?_, ?_⟩ <;> rw [cell_of_row _ _ _ _ _ _ h] <;> rfl
  | 3, _ => refine ⟨?_, ?_, ?_, ?_⟩ <;> rw [cell_of_row _ _ _ _ _ _ h] <;> rfl
abbrev big : Val := num_ 9223372036854775807
abbrev low_ : Val := num_ (-9223372036854775807)
theorem ag_four (A : Option Addr) (c : Nat) (w : World) (hv : VSl w A 4 [big, big, low_, low_]) : Calls Try.prog 116 #[.int .i64 2, .slice A 4 c] w fun e w' => e = .returned (.tuple #[.agg #[.int .i64 1, .int .i64 0, .bool false, .string { data := #[] }], .int .i64 0]) ∧ Below w.heap.size w w' :=
  of_known 2 A 4 c _ w (num_ 0) 0 (by omega) (by intro v hv; simp at hv; rcases hv with rfl | rfl <;> simp) (by decide +kernel) hv
theorem ag_two (A : Option Addr) (c : Nat) (w : World) (hv : VSl w A 2 [low_, low_]) : Calls Try.prog 116 #[.int .i64 2, .slice A 2 c] w fun e w' => e = .returned (.tuple #[.agg #[.int .i64 0, .int .i64 0, .bool false, .string { data := #[] }], .int .i64 1702]) ∧ Below w.heap.size w w' :=
  of_known 2 A 2 c _ w nought 1702 (by omega) (by intro v hv; simp at hv; subst hv; simp) (by decide +kernel) hv

set_option maxRecDepth 100000 in
set_option maxHeartbeats 8000000 in
theorem aggRows_any (kind : Int) (A0 : Option Addr) (n c0 : Nat) (vs : List Val) (turn : Int) (w : World) (_hk : (Lit.int .i64 kind).wf = true) (h0 : VArg w A0 n c0 vs) (_ht : (Lit.int .i64 turn).wf = true) :
    Calls Try.prog 30 #[.int .i64 kind, .slice A0 n c0, .int .i64 turn] w fun e w' => e = .returned (.bool true) ∧ Below w.heap.size w w' := by
  clear _hk _ht
  have hle := h0.le; have hcap := h0.cap
  have hxl := h0.sl.1
  have hf : ∀ v ∈ vs, -9223372036854775808 ≤ v.i ∧ v.i < 9223372036854775808 := fun v hv => ⟨(h0.fine v hv).i1, (h0.fine v hv).i2⟩
  obtain ⟨m, hm, hm2⟩ := Crc.mod_nat kind 5 (by omega)
  replace hm2 : (IntKind.u64.wrap kind).tmod 5 = (m : Int) := hm2
  obtain ⟨t, ht, ht2⟩ := Crc.mod_nat turn (n + 1) (by omega)
  replace ht2 : (IntKind.u64.wrap turn).tmod ((n : Int) + 1) = (t : Int) := ht2
  have hn1 : IntKind.u64.wrap ((n : Int) + 1) = (n : Int) + 1 := by rw [IntKind.wrap_u64]; omega
  have hra : agg (m : Int) (rot vs t n) = agg (m : Int) vs := by have := rot_agg (vs := vs) (t := t) (m : Int) (by omega); rw [hxl] at this; exact this
  have hO := fun A c w h => aggOf_any (m : Int) A n c vs w h (by omega) hf
  have hO2 := fun A c w h => aggOf_any (m : Int) A n c (rot vs t n) w h (by omega) (fun v hv => hf v (rot_mem (by rw [hxl]; exact Nat.pos_of_ne_zero (fun h2 => by subst h2; simp [rot] at hv)) v hv))
  rw [hra] at hO2
  generalize agg (m : Int) vs = R at hO hO2
  obtain ⟨⟨ku, iu, bu, su⟩, E⟩ := R
  simp only [vagg] at hO hO2
  have hqU := eq_same ⟨ku, iu, bu, su⟩
  have hq0 := eq_same (num_ 0)
  simp only [] at hqU hq0
  have HO := Lib.hid hO; clear hO
  have HO2 := Lib.hid hO2; clear hO2 hra hf
  have HL := Lib.hid hxl; clear hxl
  have H0 := Lib.hid h0; clear h0
  go_enter Try.func30, Try.ntmps30
  go_wp2_with (go_at_call 118; (with_reducible refine (awake_any _).mono ?_); rintro e w1 ⟨rfl, hb1⟩)
  replace H0 := Lib.hid (H0.out.below hb1)
  go_loopw [8, 9] (fun ov iv wr => ∃ k : Nat, k ≤ n ∧ iv = .int .i64 k ∧ OwnV wr w1.heap.size ov (rot vs t k) ∧ Below w1.heap.size w1 wr) (fun _ iv _ => n - (intOf iv).toNat)
  case atStart => exact ⟨0, Nat.zero_le _, rfl, OwnV.nil _ _, Below.refl _ _⟩
  case round =>
    obtain ⟨k, hk, rfl, hO, hb⟩ := hrel
    have HOO := Lib.hid hO; clear hO
    by_cases hkn : k < n
    · obtain ⟨j, hj⟩ : ∃ j, j = (k + t) % n := ⟨_, rfl⟩
      have hjn : j < n := by rw [hj]; exact Nat.mod_lt _ (by omega)
      obtain ⟨s, hs⟩ : ∃ s, s = k + t := ⟨_, rfl⟩
      rw [← hs] at hj
      have hsI : IntKind.i64.wrap ((k : Int) + (t : Int)) = (s : Int) := by rw [show (k : Int) + (t : Int) = (s : Int) by omega]; exact IntWalk.i64_in _ (by omega)
      have hjI : (s : Int) % (n : Int) = (j : Int) := by rw [hj]; push_cast; rfl
      have hjT : (s : Int).tmod (n : Int) = (j : Int) := by rw [hj]; rfl
      obtain ⟨b1, o1, v, hv1, rfl, hbl, c0', c1', c2', c3'⟩ := (H0.out.sl.below hb).at_ hjn
      have hts : rot vs t (k + 1) = rot vs t k ++ [v] := by
        rw [rot_succ, HL.out, ← hs, ← hj, List.getD_eq_getElem?_getD, hv1]; rfl
      have hfl : (rot vs t k).length < few := by rw [rot_length]; unfold few; omega
      have HT := Lib.hid (And.intro hts hfl); clear hts hfl hv1 hj hs
      obtain ⟨kv, iv, bv, sv⟩ := v
      simp only [] at c0' c1' c2' c3'
      have hsz := hb.size
      have hjnI : (j : Int) < (n : Int) := by omega
      have hn0 : ¬ (n : Int) = 0 := by omega
      have hn01 : ¬ (n : Int) + 1 = 0 := by omega
      go_wp2_with (first
        | (refine wpList_push_val rfl _ _ rfl w1.heap.size _ (rot vs t k) ⟨kv, iv, bv, sv⟩ wr.heap.size 1 rfl rfl (t := 52) (fr := (0, 0)) (heap_alloc_new wr _) (HOO.out.alloc _) HT.out.2 (by simp; omega) ?_; intro u2 wB hB2 hgB hatB; have HB2 := Lib.hid hB2; clear hB2))
      go_roundw
      case rel => exact ⟨k + 1, by omega, by go_num, by rw [HT.out.1]; exact HB2.out, (hb.alloc hb.size _).grown hgB (by simp; omega) (own_base HOO.out)⟩
      case measure => simp [intOf]; omega
    · obtain rfl : n = k := by omega
      have hO3 := HOO.out
      obtain ⟨A2, c2, rfl, hv2, _⟩ := hO3.form' (n := n) (rot_length _ _ _)
      have HV2 := Lib.hid hv2; clear hv2 hO3 HOO
      have HBT := Lib.hid (bthen hb1 hb (Nat.le_refl _))
      replace H0 := Lib.hid (H0.out.below hb); clear hb hb1
      go_wp2_with fail
      refine (HO.out _ _ _ H0.out.sl).mono ?_
      rintro e w2 ⟨rfl, hb2⟩
      replace HV2 := Lib.hid (HV2.out.below hb2)
      replace HBT := Lib.hid (bthen HBT.out hb2 (Nat.le_refl _)); clear hb2
      go_wp2_with fail
      refine (HO2.out _ _ _ (HV2.out.alloc _)).mono ?_
      rintro e w3 ⟨rfl, hb3⟩
      have HX := Lib.hid ((Box.new w2 ⟨ku, iu, bu, su⟩).below hb3)
      replace HBT := Lib.hid (bthen (HBT.out.alloc HBT.out.size _) hb3 (Nat.le_refl _)); clear hb3
      have hx := HX.out.lt
      go_wp2_with fail
      refine (ag_four _ _ _ (at4v _ _ (by simp) big big low_ low_ _)).mono ?_
      rintro e w4 ⟨rfl, hb4⟩
      have HY := Lib.hid (((((Box.new w3 ⟨ku, iu, bu, su⟩).alloc _).alloc _).alloc _).below hb4)
      have HW := Lib.hid (((box_new ((w3.alloc (.cells #[.int .i64 ku, .int .i64 iu, .bool bu, .string su] 52)).alloc (.cells #[.int .i64 1, .int .i64 9223372036854775807, .bool false, .string { data := #[] }] 52)) (w3.heap.size + 1 + 1) (by simp) low_).alloc _).below hb4)
      replace HX := Lib.hid (((((HX.out.alloc _).alloc _).alloc _).alloc _).below hb4)
      have h3z := HBT.out.size
      replace HBT := Lib.hid (bthen ((((HBT.out.alloc h3z _).alloc (by simp; omega) _).alloc (by simp; omega) _).alloc (by simp; omega) _) hb4 (Nat.le_refl _)); clear hb4 h3z
      obtain ⟨l0, l1, l2, l3⟩ := (HW.out.alloc (.cells #[.int .i64 1, .int .i64 0, .bool false, .string { data := #[] }] 52)).cells
      simp only [] at l0 l1 l2 l3
      have hx4 := HX.out.lt
      have hy4 := HY.out.lt
      go_wp2_with fail
      refine (ag_two _ _ _ (VSl.at2 _ _ (by simp) low_ low_ _)).mono ?_
      rintro e w5 ⟨rfl, hb5⟩
      have HC := Lib.hid ((((Box.new w4 (num_ 0)).alloc _).below hb5).alloc (.cells #[.int .i64 0, .int .i64 0, .bool false, .string { data := #[] }] 52))
      replace HX := Lib.hid ((((HX.out.alloc _).alloc _).below hb5).alloc (.cells #[.int .i64 0, .int .i64 0, .bool false, .string { data := #[] }] 52))
      replace HY := Lib.hid ((((HY.out.alloc _).alloc _).below hb5).alloc (.cells #[.int .i64 0, .int .i64 0, .bool false, .string { data := #[] }] 52))
      have h4z := HBT.out.size
      replace HBT := Lib.hid ((bthen ((HBT.out.alloc h4z _).alloc (by simp; omega) _) hb5 (Nat.le_refl _)).alloc (by have := hb5.size; simp at this; omega) (.cells #[.int .i64 0, .int .i64 0, .bool false, .string { data := #[] }] 52)); clear hb5 h4z l0 l1 l2 l3
      obtain ⟨x0, x1, x2, x3⟩ := HX.out.cells
      obtain ⟨y0, y1, y2, y3⟩ := HY.out.cells
      obtain ⟨z0, z1, z2, z3⟩ := HC.out.cells
      simp only [] at x0 x1 x2 x3 y0 y1 y2 y3 z0 z1 z2 z3
      go_wp2_with (go_at_call 56; (with_reducible refine (boathouseNames.num_any _ _).mono ?_); rintro e w' ⟨rfl, rfl⟩)
      go_ret
      exact ⟨rfl, HBT.out⟩
end Go.Proofs.Ytkkpcdpoldjmkaa.Agg
