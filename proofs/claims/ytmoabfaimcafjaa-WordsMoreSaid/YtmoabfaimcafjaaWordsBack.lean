/-
  THE WALK of boathouselaw8.WordsBack.
-/
import Derived.Test.YtmoabfaimcafjaaWordGot
namespace Go.Proofs.Ytmoabfaimcafjaa.Words
open Go.RowKit ValMath Vals Sl Mem

theorem top_bound (m : Nat) (l : List Nat) (h : ∀ a ∈ l, a < m) : -1 ≤ top l ∧ top l < (m : Int) := by
  induction l using snoc_ind with
  | h0 => rw [top_nil]; omega
  | h1 l a ih =>
    rw [top_snoc]
    have h1 := ih (fun x hx => h x (by simp [hx]))
    have h2 := h a (by simp)
    omega
theorem back_look (vs : List Val) : lookVals (build vs).1 (iat (build vs).2) = vs.map clean ∧ lookCode (build vs).1 (iat (build vs).2) = 0 := look_some (look_build vs)
theorem take_nat {l : List Nat} {k x : Nat} (h : l[k]? = some x) : l.take (k + 1) = l.take k ++ [x] := by rw [List.take_add_one, h]; rfl

set_option maxRecDepth 20000 in
set_option maxHeartbeats 4000000 in
theorem wordsBack_any (A0 : Option Addr) (n0 c0 : Nat) (vs : List Val) (w : World) (h0 : VArg w A0 n0 c0 vs) :
    Calls Try.prog 5 #[.slice A0 n0 c0] w fun e w' => e = .returned (.bool true) ∧ Below w.heap.size w w' := by
  have b0 := h0.le; have b0' := h0.cap
  obtain ⟨m, hm⟩ : ∃ m, (build vs).1.length = m := ⟨_, rfl⟩
  have hvl := h0.sl.1
  have hmn : m ≤ n0 := by have := build_ws_length vs; omega
  have hq : (lookVals (build vs).1 (iat (build vs).2)).length = n0 := by rw [(back_look vs).1, List.length_map, hvl]
  have hfw : ∀ v ∈ (build vs).1, Fine v := fun u hu => by
    obtain ⟨v, hv, e⟩ := (build_ws_mem vs u).1 hu
    rw [← e]; exact fine_clean (h0.fine v hv)
  have hal := build_at_length vs
  rw [hvl] at hal
  have H0 := Lib.hid h0; clear h0
  have HM := Lib.hid (And.intro hm (And.intro hvl hal)); clear hm hvl hal
  have HQ := Lib.hid (And.intro hq hfw); clear hq hfw
  have HBT := Lib.hid (Below.refl w.heap.size w)
  go_enter Try.func5, Try.ntmps5
  go_wp2_with fail
  refine (awake_any _).mono ?_
  rintro e w1 ⟨rfl, hb1⟩
  (try replace H0 := Lib.hid (H0.out.below hb1))
  (try replace H1 := Lib.hid (H1.out.below hb1))
  (try replace H2 := Lib.hid (H2.out.below hb1))
  (try replace H7 := Lib.hid (H7.out.below hb1))
  (try replace H8 := Lib.hid (H8.out.below hb1))
  (try replace H9 := Lib.hid (H9.out.below hb1))
  (try replace HA := Lib.hid (HA.out.below hb1))
  (try replace HC := Lib.hid (HC.out.below hb1))
  (try replace HE := Lib.hid (HE.out.below hb1))
  (try replace HG := Lib.hid (HG.out.below hb1))
  (try replace HBT := Lib.hid (bthen HBT.out hb1 (Nat.le_refl _)))
  clear hb1
  go_wp2_with fail
  refine (build_got _ n0 _ vs _ H0.out.sl (by omega) H0.out.fine m HM.out.1).mono ?_
  rintro e w2 ⟨A3, c3, A4, c4, rfl, hA, hb2⟩
  (try replace H0 := Lib.hid (H0.out.below hb2))
  (try replace H1 := Lib.hid (H1.out.below hb2))
  (try replace H2 := Lib.hid (H2.out.below hb2))
  (try replace H7 := Lib.hid (H7.out.below hb2))
  (try replace H8 := Lib.hid (H8.out.below hb2))
  (try replace H9 := Lib.hid (H9.out.below hb2))
  (try replace HA := Lib.hid (HA.out.below hb2))
  (try replace HC := Lib.hid (HC.out.below hb2))
  (try replace HE := Lib.hid (HE.out.below hb2))
  (try replace HG := Lib.hid (HG.out.below hb2))
  (try replace HBT := Lib.hid (bthen HBT.out hb2 (Nat.le_refl _)))
  have HA := Lib.hid hA; clear hA hb2
  go_wp2_with fail
  refine (look_got _ _ m n0 _ _ _ _ _ HA.out.sl1 HA.out.sl2 (by omega) (by omega) HQ.out.2 n0 HQ.out.1 0 (back_look vs).2).mono ?_
  rintro e w3 ⟨A5, c5, rfl, hE, hb3⟩
  (try replace H0 := Lib.hid (H0.out.below hb3))
  (try replace H1 := Lib.hid (H1.out.below hb3))
  (try replace H2 := Lib.hid (H2.out.below hb3))
  (try replace H7 := Lib.hid (H7.out.below hb3))
  (try replace H8 := Lib.hid (H8.out.below hb3))
  (try replace H9 := Lib.hid (H9.out.below hb3))
  (try replace HA := Lib.hid (HA.out.below hb3))
  (try replace HC := Lib.hid (HC.out.below hb3))
  (try replace HE := Lib.hid (HE.out.below hb3))
  (try replace HG := Lib.hid (HG.out.below hb3))
  (try replace HBT := Lib.hid (bthen HBT.out hb3 (Nat.le_refl _)))
  rw [(back_look vs).1] at hE
  have HE := Lib.hid hE; clear hE hb3
  have hd0 : decide ((n0 : Int) < (m : Int)) = false := decide_eq_false (by omega)
  have hd0' : decide (n0 < m) = false := decide_eq_false (by omega)
  go_wp2_with (go_at_call 16; refine (Nums.num_any _ _).mono ?_; rintro e w' ⟨rfl, rfl⟩)
  obtain ⟨wo, rfl⟩ : ∃ wo : World, wo = w3 := ⟨_, rfl⟩
  go_loopw [7, 8] (fun s i wr => ∃ k : Nat, k ≤ n0 ∧ i = .int .i64 k ∧ s = .int .i64 (top ((build vs).2.take k)) ∧ Below wo.heap.size wo wr) (fun _ i _ => n0 - (intOf i).toNat)
  case atStart => exact ⟨0, Nat.zero_le _, rfl, rfl, Below.refl _ _⟩
  case round =>
    obtain ⟨k, hk, rfl, rfl, hb⟩ := hrel
    have htb := top_bound m ((build vs).2.take k) (fun a ha => by rw [← HM.out.1]; exact build_at_lt vs a (List.mem_of_mem_take ha))
    by_cases hlt : k < n0
    · obtain ⟨b, o, v, hv1, rfl, hbl, c0, c1, c2, c3⟩ := (H0.out.below hb).sl.at_ hlt
      obtain ⟨b5, o5, x, hx1, rfl, hbl5, d0, d1, d2, d3⟩ := (HE.out.below hb).sl.at_ hlt
      obtain ⟨b4, o4, a, ha1, rfl, hbl4, e0⟩ := (HA.out.below hb).sl2.at_ hlt
      have hx2 : x = clean v := by rw [List.getElem?_map, hv1] at hx1; injection hx1 with hx1; exact hx1.symm
      subst hx2
      have hkl : k < (build vs).2.length := by rw [HM.out.2.2]; exact hlt
      obtain ⟨p, hp1⟩ : ∃ p, (build vs).2[k]? = some p := ⟨_, List.getElem?_eq_getElem hkl⟩
      have ha2 : a = (p : Int) := by unfold iat at ha1; rw [List.getElem?_map, hp1] at ha1; injection ha1 with ha1; exact ha1.symm
      subst ha2
      have hpt := build_at_top vs k hkl
      rw [List.getElem?_eq_getElem hkl] at hp1
      injection hp1 with hp2
      rw [hp2] at hpt
      have hts : top ((build vs).2.take (k + 1)) = max (top ((build vs).2.take k)) (p : Int) := by rw [take_nat (x := p) (by rw [List.getElem?_eq_getElem hkl, hp2]), top_snoc]
      have HTS := Lib.hid hts; clear hts ha1 hx1 hv1 hp2
      generalize top ((build vs).2.take k) = t at *
      have hx4 : At4 wr b5 (o5 + k * 4) (clean v) := ⟨d0, d1, d2, d3⟩
      have hv4 : At4 wr b (o + k * 4) v := ⟨c0, c1, c2, c3⟩
      have HX4 := Lib.hid (And.intro hx4 (And.intro hv4 e0)); clear hx4 hv4
      have hp := clean_any v
      have hq0 : ∀ W, (binOp .neq 38 (.agg #[.int .i64 (clean v).k, .int .i64 (clean v).i, .bool (clean v).b, .string (clean v).s]) (.agg #[.int .i64 (clean v).k, .int .i64 (clean v).i, .bool (clean v).b, .string (clean v).s])).run Try.prog W = .ok (.bool false) W := fun W => by rw [neq_val (clean v) (clean v) W, decide_eq_true rfl]; rfl
      have hg0 := fun x y (W : World) => guard_val .neq x y #[.int .i64 (clean v).k, .int .i64 (clean v).i, .bool (clean v).b, .string (clean v).s] #[.int .i64 (clean v).k, .int .i64 (clean v).i, .bool (clean v).b, .string (clean v).s] W
      generalize clean v = u at *
      obtain ⟨kv, iv, bv, sv⟩ := v
      obtain ⟨ku, iu, bu, su⟩ := u
      simp only [] at c0 c1 c2 c3 d0 d1 d2 d3 hp hq0 hg0
      have HP := Lib.hid hp; clear hp
      have hw1 : IntKind.i64.wrap (t + 1) = t + 1 := IntWalk.i64_in _ (by omega)
      have hd1 : decide (t + 1 < (p : Int)) = false := decide_eq_false (by omega)
      have hi1 : (0 : Int) ≤ (k : Int) := by omega
      have hi2 : (k : Int) < (n0 : Int) := by omega
      go_wp2
      go_region_held3 (fun w' => (w'.cell? ⟨b5, o5 + k * 4, none⟩ = some (.int .i64 ku) ∧ w'.cell? ⟨b5, o5 + k * 4 + 1, none⟩ = some (.int .i64 iu) ∧ w'.cell? ⟨b5, o5 + k * 4 + 2, none⟩ = some (.bool bu) ∧ w'.cell? ⟨b5, o5 + k * 4 + 3, none⟩ = some (.string su)) ∧
          (w'.cell? ⟨b, o + k * 4, none⟩ = some (.int .i64 kv) ∧ w'.cell? ⟨b, o + k * 4 + 1, none⟩ = some (.int .i64 iv) ∧ w'.cell? ⟨b, o + k * 4 + 2, none⟩ = some (.bool bv) ∧ w'.cell? ⟨b, o + k * 4 + 3, none⟩ = some (.string sv)) ∧ w'.cell? ⟨b4, o4 + k, none⟩ = some (.int .i64 (p : Int)))
        (first | go_keep | exact ⟨HX4.out.1.drew.below hbK hbl5, HX4.out.2.1.drew.below hbK hbl, (hbK.cell (p := ⟨b4, o4 + k, none⟩) hbl4).trans HX4.out.2.2⟩)
        ((first | (go_at_call 35; with_reducible refine (HP.out _).mono ?_; rintro e wK ⟨rfl, hbK⟩)))
      have hb2 := bthen hb.drew hbK (Nat.le_refl _)
      have e1 : wK.cell? ⟨b4, o4 + k, none⟩ = some (.int .i64 (p : Int)) := (hbK.cell (p := ⟨b4, o4 + k, none⟩) hbl4).trans HX4.out.2.2
      clear c0 c1 c2 c3 d0 d1 d2 d3 e0 hq0 hg0
      by_cases htp : t < (p : Int)
      · have hmx : max t (p : Int) = (p : Int) := by omega
        rw [hmx] at HTS
        clear hmx
        go_wp2
        go_roundw
        case rel => exact ⟨k + 1, by omega, by go_num, by rw [HTS.out], hb2⟩
        case measure => simp [intOf]; omega
      · have hmx : max t (p : Int) = t := by omega
        rw [hmx] at HTS
        clear hmx
        go_wp2
        go_roundw
        case rel => exact ⟨k + 1, by omega, by go_num, by rw [HTS.out], hb2⟩
        case measure => simp [intOf]; omega
    · obtain rfl : k = n0 := by omega
      have hto : top ((build vs).2.take k) + 1 = (m : Int) := by rw [List.take_of_length_le (by rw [HM.out.2.2]; exact Nat.le_refl _), build_top, HM.out.1]
      generalize top ((build vs).2.take k) = t at *
      have hw1 : IntKind.i64.wrap (t + 1) = (m : Int) := by rw [hto]; exact IntWalk.i64_in _ (by omega)
      clear hto
      go_wp2
      go_ret
      exact ⟨rfl, bthen HBT.out hb (Nat.le_refl _)⟩
end Go.Proofs.Ytmoabfaimcafjaa.Words
