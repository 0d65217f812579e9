/-
  THE WALK of VarintRow.
-/
import Derived.Test.YtkkpcdpoldjmkaaVarLaws2
namespace Go.Proofs.Ytkkpcdpoldjmkaa.Varint
open Go.RowKit VarMath Sl Go.ChangeShapes Go.WideShapes

theorem row_get {ys : List Int} {j : Nat} {x : Int} (h : ys[j]? = some x) : row ys = row (ys.take j) ++ (enc (low x) ++ (enc (zig x) ++ row (ys.drop (j + 1)))) := by
  have hj : j < ys.length := by
    rcases Nat.lt_or_ge j ys.length with h1 | h1
    · exact h1
    · rw [List.getElem?_eq_none h1] at h; cases h
  rw [List.getElem?_eq_getElem hj] at h
  injection h with h
  conv => lhs; rw [← List.take_append_drop j ys, List.drop_eq_getElem_cons hj]
  rw [row_append, h]
  simp [row]

set_option maxRecDepth 100000 in
set_option maxHeartbeats 8000000 in
theorem varintRow_any (A : Option Addr) (n c : Nat) (xs : List Int) (w : World) (h0 : IArg w A n c xs) :
    Calls Try.prog 21 #[.slice A n c] w fun e w' => e = .returned (.bool true) ∧ Below w.heap.size w w' := by
  have hle := h0.le; have hcap := h0.cap
  have hxl := h0.sl.1
  obtain ⟨ys, hys⟩ : ∃ ys, ys = xs.take 40 := ⟨_, rfl⟩
  obtain ⟨m, hm⟩ : ∃ m, m = ys.length := ⟨_, rfl⟩
  have hm1 : m = min 40 n := by rw [hm, hys, List.length_take, hxl]
  have hm40 : m ≤ 40 := by omega
  have hmn : m ≤ n := by omega
  have hm3 : m < 40 → m = n := by omega
  have hget : ∀ k x, k < m → xs[k]? = some x → ys[k]? = some x := fun k x hk hx => by rw [hys, List.getElem?_take, if_pos (by omega)]; exact hx
  have hfine : ∀ k x, xs[k]? = some x → -9223372036854775808 ≤ x ∧ x < 9223372036854775808 := fun k x hx => h0.fine x (List.mem_of_getElem? hx)
  have hrl : ∀ k, (row (ys.take k)).length ≤ 800 := fun k => by
    have h1 := row_length_le (ys.take k)
    have h2 : (ys.take k).length ≤ 40 := by rw [List.length_take]; omega
    omega
  have hrl2 : (row ys).length ≤ 800 := by have := hrl m; rw [List.take_of_length_le (by omega)] at this; exact this
  clear hm1 hys
  have HG := Lib.hid (And.intro hget hfine); clear hget hfine
  have HRL := Lib.hid (And.intro hrl hrl2); clear hrl hrl2
  have HM := Lib.hid (And.intro hm hm3); clear hm hm3
  have H0 := Lib.hid h0; clear h0 hxl
  go_enter Try.func21, Try.ntmps21
  go_wp2_with (go_at_call 99; with_reducible refine (awake_any _).mono ?_; rintro e w1 ⟨rfl, hb1⟩)
  replace H0 := Lib.hid (H0.out.below hb1)
  go_loopw [3, 4] (fun sv iv wr => ∃ k : Nat, k ≤ m ∧ iv = .int .i64 k ∧ sv = .string (str (row (ys.take k))) ∧ Below w1.heap.size w1 wr) (fun _ iv _ => m - (intOf iv).toNat)
  case atStart => exact ⟨0, Nat.zero_le _, rfl, rfl, Below.refl _ _⟩
  case round =>
    obtain ⟨k, hk, rfl, rfl, hb⟩ := hrel
    have hz := str_size (row (ys.take k))
    have hzl := HRL.out.1 k
    rw [← hz] at hzl
    by_cases hkm : k < m
    · obtain ⟨g, off, x, hx, rfl, hg, hcell⟩ := (H0.out.sl.below hb).at_ (k := k) (by omega)
      have hfx := HG.out.2 k x hx
      have hyx := HG.out.1 k x hkm hx
      have hts : row (ys.take (k + 1)) = row (ys.take k) ++ (enc (low x) ++ enc (zig x)) := by rw [Vals.take_more hyx, row_snoc]
      have ha : bits .and .i64 x 1048575 = (low x : Int) := by
        have := and_mask_i64 x 20 (by omega)
        rw [show ((2 ^ 20 - 1 : Nat) : Int) = 1048575 from rfl] at this
        rw [this]; unfold low; omega
      have HP := Lib.hid (fun w => Put_of (low x) (low x : Nat) w rfl (by have := low_lt x; omega))
      have HZ := Lib.hid (fun w => Zig_any x w hfx.1 hfx.2)
      have hcat : str (row (ys.take k)) ++ str (enc (low x)) ++ str (enc (zig x)) = str (row (ys.take (k + 1))) := by
        rw [hts]; exact str_eq (by rw [append_toList, append_toList]; simp)
      have s1 := enc_size (low x)
      have s2 := enc_size (zig x)
      have l1 := enc_length_le (low x)
      have l2 := enc_length_le (zig x)
      rw [← s1] at l1
      rw [← s2] at l2
      have HC := Lib.hid hcat; clear hcat hts hz s1 s2
      generalize str (enc (low x)) = S1 at *
      generalize str (enc (zig x)) = S2 at *
      generalize (low x : Int) = lx at *
      generalize hSS : str (row (ys.take k)) = SS at *
      have hlt40 : k < 40 := by omega
      have hltn : k < n := by omega
      clear hfx hyx hx
      go_wp2_with (first
        | (go_at_call 91; with_reducible refine (HP.out _).mono ?_; rintro e w2 ⟨rfl, hb2⟩; have hc2 := (hb2.cell (p := ⟨g, off + k, none⟩) hg).trans hcell)
        | (go_at_call 97; with_reducible refine (HZ.out _).mono ?_; rintro e w3 ⟨rfl, hb3⟩)
        | (go_at_call 56; with_reducible refine (boathouseNames.num_any _ _).mono ?_; rintro e w' ⟨rfl, rfl⟩))
      go_roundw
      case rel => exact ⟨k + 1, by omega, by go_num, by rw [HC.out], bthen (bthen hb hb2 (Nat.le_refl _)) hb3 (Nat.le_refl _)⟩
      case measure => simp [intOf]; omega
    · obtain rfl : k = m := by omega
      have hyt : ys.take k = ys := List.take_of_length_le (by rw [← HM.out.1]; exact Nat.le_refl _)
      rw [hyt]
      rw [hyt] at hz hzl
      have hex : ¬ (k < n ∧ k < 40) := by have := HM.out.2; omega
      have HEX := Lib.hid hex; clear hex
      have hgo : (n ≤ k) ∨ (k < n ∧ 40 ≤ k) := by have := HEX.out; omega
      have HBT := Lib.hid (bthen hb1 hb (Nat.le_refl _))
      replace H0 := Lib.hid (H0.out.below hb)
      generalize hSS : str (row ys) = SS at *
      have HSS := Lib.hid hSS; clear hSS
      clear hb hb1 hyt hkm
      have hS800 : SS.size ≤ 800 := hzl
      clear hzl
      have hr : SS.size ≤ maxReach := by unfold maxReach; omega
      have HR := Lib.hid hr; clear hr
      have hkm40 : k ≤ 40 := hm40
      rcases hgo with hgo | ⟨hgo, hgo2⟩
      all_goals
        go_wp2
        go_loop [7, 8] (fun av iv => ∃ j : Nat, j ≤ k ∧ iv = .int .i64 j ∧ av = .int .i64 ((row (ys.take j)).length : Nat)) (fun _ iv => k - (intOf iv).toNat)
        case atStart => exact ⟨0, Nat.zero_le _, rfl, rfl⟩
        case round =>
          obtain ⟨j, hj, rfl, rfl⟩ := hrel
          by_cases hjk : j < k
          · obtain ⟨g, off, x, hx, rfl, hg, hcell⟩ := H0.out.sl.at_ (k := j) (by omega)
            have hfx := HG.out.2 j x hx
            have hyx := HG.out.1 j x hjk hx
            have hl := row_get hyx
            have hl1 : SS.data.toList = row (ys.take j) ++ (enc (low x) ++ (enc (zig x) ++ row (ys.drop (j + 1)))) := by rw [← HSS.out]; exact hl
            have hl2 : SS.data.toList = (row (ys.take j) ++ enc (low x)) ++ (enc (zig x) ++ row (ys.drop (j + 1))) := by rw [hl1]; simp
            have h1 := fun w => Get_of SS _ _ (low x) _ w HR.out hl1 rfl (by have := low_lt x; omega)
            have h2 := fun w => Zag_of SS _ _ x _ w HR.out hl2 rfl hfx.1 hfx.2
            have hts : (row (ys.take (j + 1))).length = (row (ys.take j) ++ enc (low x)).length + (enc (zig x)).length := by
              rw [Vals.take_more hyx, row_snoc]; simp; omega
            have ha : bits .and .i64 x 1048575 = (low x : Int) := by
              have := and_mask_i64 x 20 (by omega)
              rw [show ((2 ^ 20 - 1 : Nat) : Int) = 1048575 from rfl] at this
              rw [this]; unfold low; omega
            rw [← hts] at h2
            rw [List.length_append] at h2
            generalize (row (ys.take j)).length + (enc (low x)).length = q at h1 h2
            have HG1 := Lib.hid h1; clear h1
            have HZ1 := Lib.hid h2; clear h2
            clear hl hl1 hl2 hts hyx hfx hx
            have hj40 : j < 40 := by omega
            have hjn : j < n := by omega
            generalize (row (ys.take j)).length = p at *
            generalize (low x : Int) = lx at *
            go_wp2_with (first
              | (go_at_call 93; with_reducible refine (HG1.out _).mono ?_; rintro e w' ⟨rfl, rfl⟩)
              | (go_at_call 95; with_reducible refine (HZ1.out _).mono ?_; rintro e w' ⟨rfl, rfl⟩)
              | (go_at_call 56; with_reducible refine (boathouseNames.num_any _ _).mono ?_; rintro e w' ⟨rfl, rfl⟩))
            go_round
            case rel => exact ⟨j + 1, by omega, by go_num, rfl⟩
            case measure => simp [intOf]; omega
          · obtain rfl : j = k := by omega
            have hyt : ys.take j = ys := List.take_of_length_le (by rw [← HM.out.1]; exact Nat.le_refl _)
            rw [hyt]
            have hq : (row ys).length = SS.size := by rw [← HSS.out, str_size]
            rw [hq]
            have he : ∀ w, Calls Try.prog 93 #[.string SS, .int .i64 (SS.size : Nat)] w fun e w' => e = .returned (.tuple #[.int .i64 0, .int .i64 0, .int .i64 500]) ∧ w = w' := fun w => Get_end SS _ w HR.out rfl
            have HE := Lib.hid he; clear he
            clear hq hyt hjk
            (try clear hz)
            go_wp2_with (first
              | (go_at_call 93; with_reducible refine (HE.out _).mono ?_; rintro e w' ⟨rfl, rfl⟩)
              | (go_at_call 56; with_reducible refine (boathouseNames.num_any _ _).mono ?_; rintro e w' ⟨rfl, rfl⟩))
            go_ret
            exact ⟨rfl, HBT.out⟩
end Go.Proofs.Ytkkpcdpoldjmkaa.Varint
