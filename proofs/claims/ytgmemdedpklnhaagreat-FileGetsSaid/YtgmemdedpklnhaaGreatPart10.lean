/-
  Lemmas of this claim, text behind text: UtfRef. Each states its own conditions.
-/
import Derived.Test.YtgmemdedpklnhaaGreatPart04

/-
  THE WALKS of the document's own runes: boathouseref1.next, Rune, First, Valid, PutRune.
-/

namespace Go.Proofs.YtgmemdedpklnhaaGreat.Utf
open Go.RowKit UtfMath

def nextI (l : List UInt8) (i : Nat) : Int := if goes l i then (at_ l i : Int) - 128 else -1
set_option maxRecDepth 100000 in
set_option maxHeartbeats 1000000 in
theorem next_any (s : ByteArray) (a j : Nat) (z : Int) (w : World) (hs : s.size ≤ maxReach) (hz : z = ((a + j : Nat) : Int)) :
    Calls Tryz.prog 119 #[.string s, .int .i64 z] w fun e w' => e = .returned (.int .i64 (nextI (s.data.toList.drop a) j)) ∧ w = w' := by
  subst hz
  unfold maxReach at hs
  have hl : (s.data.toList.drop a).length = s.size - a := by rw [List.length_drop]; simp
  have hb := at_byte s.data.toList a j
  unfold nextI
  have hg : goes (s.data.toList.drop a) j ↔ j < s.size - a ∧ 128 ≤ byteAt s.data.toList (a + j) ∧ byteAt s.data.toList (a + j) < 192 := by unfold goes; rw [hl, hb]
  rw [← hb]
  generalize hk : a + j = k at *
  by_cases hlt : k < s.size
  · have hat := run_at s (k : Nat) k rfl hlt
    have hy := byteAt_lt s.data.toList k
    generalize byteAt s.data.toList k = y at *
    by_cases h1 : 128 ≤ y
    · by_cases h2 : y < 192
      · rw [if_pos (hg.2 ⟨by omega, h1, h2⟩)]
        have h2' : (y : Int) ≤ 191 := by omega
        clear hg hb hl hk h2
        go_enter Tryz.func119, Tryz.ntmps119
        go_wp2
        go_ret
        exact ⟨rfl, rfl⟩
      · rw [if_neg (fun h => h2 (hg.1 h).2.2)]
        have h2' : (191 : Int) < y := by omega
        clear hg hb hl hk h2
        go_enter Tryz.func119, Tryz.ntmps119
        go_wp2
        go_ret
        exact ⟨rfl, rfl⟩
    · rw [if_neg (fun h => h1 (hg.1 h).2.1)]
      clear hg hb hl hk
      go_enter Tryz.func119, Tryz.ntmps119
      go_wp2
      go_ret
      exact ⟨rfl, rfl⟩
  · rw [if_neg (fun h => hlt (by have := (hg.1 h).1; omega))]
    clear hg hb hl hk
    go_enter Tryz.func119, Tryz.ntmps119
    go_wp2
    go_ret
    exact ⟨rfl, rfl⟩
theorem next_yes {l : List UInt8} {i : Nat} (h : goes l i) : nextI l i = (at_ l i : Int) - 128 ∧ 0 ≤ (at_ l i : Int) - 128 ∧ (at_ l i : Int) - 128 < 64 := by
  unfold nextI; rw [if_pos h]; have := h.2; exact ⟨rfl, by omega, by omega⟩
theorem next_no {l : List UInt8} {i : Nat} (h : ¬ goes l i) : nextI l i = -1 := by unfold nextI; rw [if_neg h]

set_option maxRecDepth 100000 in
set_option maxHeartbeats 16000000 in
theorem refRune_any (s : ByteArray) (at_0 : Int) (w : World) (hs : s.size ≤ maxReach) :
    Calls Tryz.prog 114 #[.string s, .int .i64 at_0] w fun e w' => e = .returned (.tuple #[.int .i64 ((runeAt s.data.toList at_0).1 : Nat), .int .i64 ((runeAt s.data.toList at_0).2 : Nat)]) ∧ w = w' := by
  have hs0 := hs
  unfold maxReach at hs
  have hl : s.data.toList.length = s.size := by simp
  by_cases hout : at_0 < 0 ∨ (s.size : Int) ≤ at_0
  · have e : runeAt s.data.toList at_0 = (0, 0) := by unfold runeAt; rw [if_pos (by rw [hl]; exact hout)]
    rw [e]
    clear e hl
    go_enter Tryz.func114, Tryz.ntmps114
    by_cases h0 : at_0 < 0
    · go_wp2
      go_ret2
      exact ⟨rfl, rfl⟩
    · have h : (s.size : Int) ≤ at_0 := by omega
      go_wp2
      go_ret2
      exact ⟨rfl, rfl⟩
  obtain ⟨a, rfl⟩ : ∃ a : Nat, at_0 = (a : Nat) := ⟨at_0.toNat, by omega⟩
  have ha : a < s.size := by omega
  clear hout
  rw [runeAt_in (by rw [hl]; exact ha)]
  have hdl : (s.data.toList.drop a).length = s.size - a := by rw [List.length_drop, hl]
  have hat := run_at s (a : Nat) a rfl ha
  have hbc : byteAt s.data.toList a = at_ (s.data.toList.drop a) 0 := by have := at_byte s.data.toList a 0; rw [Nat.add_zero] at this; exact this
  rw [hbc] at hat
  have hn1 := fun w => next_any s a 1 ((a : Int) + 1) w hs0 (by omega)
  have hn2 := fun w => next_any s a 2 ((a : Int) + 2) w hs0 (by omega)
  have hn3 := fun w => next_any s a 3 ((a : Int) + 3) w hs0 (by omega)
  have hr : rune (s.data.toList.drop a) = rune (s.data.toList.drop a) := rfl
  conv at hr => rhs; unfold rune
  rw [if_neg (show ¬ (s.data.toList.drop a).length = 0 by rw [hdl]; omega)] at hr
  have g1 : goes (s.data.toList.drop a) 1 ∨ ¬ goes (s.data.toList.drop a) 1 := Classical.em _
  have g2 : goes (s.data.toList.drop a) 2 ∨ ¬ goes (s.data.toList.drop a) 2 := Classical.em _
  have g3 : goes (s.data.toList.drop a) 3 ∨ ¬ goes (s.data.toList.drop a) 3 := Classical.em _
  have hc0 := at_lt (s.data.toList.drop a) 0
  generalize s.data.toList.drop a = l at *
  generalize hc : at_ l 0 = c at *
  clear hc hbc hdl hl
  by_cases c1 : c < 128
  · rw [if_pos c1] at hr
    have HR := Lib.hid hr; clear hr
    go_enter Tryz.func114, Tryz.ntmps114
    go_wp2
    go_ret2
    exact ⟨by rw [HR.out]; rfl, rfl⟩
  rw [if_neg c1] at hr
  by_cases c2 : c < 194 ∨ 244 < c
  · rw [if_pos c2] at hr
    have HR := Lib.hid hr; clear hr
    rcases c2 with c2 | c2
    · go_enter Tryz.func114, Tryz.ntmps114
      go_wp2
      go_ret2
      exact ⟨by rw [HR.out]; rfl, rfl⟩
    · have c3 : ¬ (c : Int) < 194 := by omega
      go_enter Tryz.func114, Tryz.ntmps114
      go_wp2
      go_ret2
      exact ⟨by rw [HR.out]; rfl, rfl⟩
  rw [if_neg c2] at hr
  have d1 : 194 ≤ c := by omega
  have d2 : c ≤ 244 := by omega
  have d1' : ¬ (c : Int) < 194 := by omega
  clear c2
  have y1 : (∃ x : Nat, goes l 1 ∧ at_ l 1 = x + 128 ∧ x < 64 ∧ nextI l 1 = (x : Int)) ∨ (¬ goes l 1 ∧ nextI l 1 = -1) := by
    rcases g1 with g | g
    · have := next_yes g; exact .inl ⟨at_ l 1 - 128, g, by omega, by omega, by omega⟩
    · exact .inr ⟨g, next_no g⟩
  have y2 : (∃ x : Nat, goes l 2 ∧ at_ l 2 = x + 128 ∧ x < 64 ∧ nextI l 2 = (x : Int)) ∨ (¬ goes l 2 ∧ nextI l 2 = -1) := by
    rcases g2 with g | g
    · have := next_yes g; exact .inl ⟨at_ l 2 - 128, g, by omega, by omega, by omega⟩
    · exact .inr ⟨g, next_no g⟩
  have y3 : (∃ x : Nat, goes l 3 ∧ at_ l 3 = x + 128 ∧ x < 64 ∧ nextI l 3 = (x : Int)) ∨ (¬ goes l 3 ∧ nextI l 3 = -1) := by
    rcases g3 with g | g
    · have := next_yes g; exact .inl ⟨at_ l 3 - 128, g, by omega, by omega, by omega⟩
    · exact .inr ⟨g, next_no g⟩
  clear g1 g2 g3
  generalize nextI l 1 = n1 at *
  generalize nextI l 2 = n2 at *
  generalize nextI l 3 = n3 at *
  have HN1 := Lib.hid hn1; clear hn1
  have HN2 := Lib.hid hn2; clear hn2
  have HN3 := Lib.hid hn3; clear hn3
  have Y2 := Lib.hid y2
  have Y3 := Lib.hid y3
  have r2 : (-1 : Int) ≤ n2 ∧ n2 < 64 := by rcases y2 with ⟨x, _, _, h, rfl⟩ | ⟨_, rfl⟩ <;> omega
  have r3 : (-1 : Int) ≤ n3 ∧ n3 < 64 := by rcases y3 with ⟨x, _, _, h, rfl⟩ | ⟨_, rfl⟩ <;> omega
  clear y2 y3
  go_enter Tryz.func114, Tryz.ntmps114
  go_upto_region 8 with fail
  go_cut [7, 8, 9] (fun v7 v8 v9 wr => v7 = .int .i64 n1 ∧ v8 = .int .i64 n2 ∧ v9 = .int .i64 n3 ∧ wr = w)
  case first =>
    go_wp2_with (first
      | (go_at_call 119; with_reducible refine (HN1.out _).mono ?_; rintro e w' ⟨rfl, rfl⟩)
      | (go_at_call 119; with_reducible refine (HN2.out _).mono ?_; rintro e w' ⟨rfl, rfl⟩)
      | (go_at_call 119; with_reducible refine (HN3.out _).mono ?_; rintro e w' ⟨rfl, rfl⟩))
    go_meet
    exact ⟨rfl, rfl, rfl, rfl⟩
  obtain ⟨rfl, rfl, rfl, rfl⟩ := hcut
  clear HN1 HN2 HN3 hat hs hs0 ha
  by_cases c3 : c < 224
  · rw [if_pos c3] at hr
    rcases y1 with ⟨x1, g1, e1, l1, rfl⟩ | ⟨g1, rfl⟩
    · rw [if_pos g1, e1, Nat.add_sub_cancel] at hr
      obtain ⟨v, hv⟩ : ∃ v, v = (c - 192) * 64 + x1 := ⟨_, rfl⟩
      rw [← hv] at hr
      obtain ⟨vi, hv3⟩ : ∃ vi : Int, (v : Int) = vi := ⟨_, rfl⟩
      have hvi : ((c : Int) - 192) * 64 + (x1 : Int) = vi := by omega
      have hvi2 : ((c - 192 : Nat) : Int) * 64 + (x1 : Int) = vi := by omega
      have HR := Lib.hid hr; clear hr
      have HV := Lib.hid hv3; clear hv3
      clear e1 g1 hv
      go_wp2
      all_goals
        go_ret2
        exact ⟨by rw [HR.out]; simp only []; rw [HV.out]; rfl, rfl⟩
    · rw [if_neg g1] at hr
      have HR := Lib.hid hr; clear hr g1
      go_wp2
      all_goals
        go_ret2
        exact ⟨by rw [HR.out]; rfl, rfl⟩
  have c3' : ¬ (c : Int) < 224 := by omega
  rw [if_neg c3] at hr
  by_cases c4 : c < 240
  · rw [if_pos c4] at hr
    rcases y1 with ⟨x1, g1, e1, l1, rfl⟩ | ⟨g1, rfl⟩
    · rcases Y2.out with ⟨x2, g2, e2, l2, e⟩ | ⟨g2, e⟩
      · subst e
        rw [e1, e2, Nat.add_sub_cancel, Nat.add_sub_cancel] at hr
        obtain ⟨v, hv⟩ : ∃ v, v = (c - 224) * 4096 + x1 * 64 + x2 := ⟨_, rfl⟩
        rw [← hv] at hr
        obtain ⟨vi, hv3⟩ : ∃ vi : Int, (v : Int) = vi := ⟨_, rfl⟩
        have hvi : ((c : Int) - 224) * 4096 + (x1 : Int) * 64 + (x2 : Int) = vi := by omega
        have hvi2 : ((c - 224 : Nat) : Int) * 4096 + (x1 : Int) * 64 + (x2 : Int) = vi := by omega
        clear e1 e2 hv
        by_cases hok : 2048 ≤ v ∧ (v < 55296 ∨ 57343 < v)
        · rw [if_pos ⟨g1, g2, hok⟩] at hr
          have HR := Lib.hid hr; clear hr g1 g2
          have k1 : 2048 ≤ vi := by omega
          have k3 : vi < 55296 ∨ (55296 ≤ vi ∧ 57343 < vi) := by omega
          have HV := Lib.hid hv3; clear hv3 hok
          rcases k3 with k3 | ⟨k3, k4⟩
          ·
            go_wp2
            all_goals
              go_ret2
              exact ⟨by rw [HR.out]; simp only []; rw [HV.out]; rfl, rfl⟩
          ·
            go_wp2
            all_goals
              go_ret2
              exact ⟨by rw [HR.out]; simp only []; rw [HV.out]; rfl, rfl⟩
        · rw [if_neg (fun h => hok h.2.2)] at hr
          have HR := Lib.hid hr; clear hr g1 g2
          have k3 : vi < 2048 ∨ (2048 ≤ vi ∧ 55296 ≤ vi ∧ vi ≤ 57343) := by omega
          clear hok hv3
          rcases k3 with k3 | ⟨k3, k4, k5⟩
          ·
            go_wp2
            all_goals
              go_ret2
              exact ⟨by rw [HR.out]; rfl, rfl⟩
          ·
            go_wp2
            all_goals
              go_ret2
              exact ⟨by rw [HR.out]; rfl, rfl⟩
      · subst e
        rw [if_neg (fun h => g2 h.2.1)] at hr
        have HR := Lib.hid hr; clear hr g1 g2 e1
        go_wp2
        all_goals
          go_ret2
          exact ⟨by rw [HR.out]; rfl, rfl⟩
    · rw [if_neg (fun h => g1 h.1)] at hr
      have HR := Lib.hid hr; clear hr g1
      go_wp2
      all_goals
        go_ret2
        exact ⟨by rw [HR.out]; rfl, rfl⟩
  have c4' : ¬ (c : Int) < 240 := by omega
  rw [if_neg c4] at hr
  rcases y1 with ⟨x1, g1, e1, l1, rfl⟩ | ⟨g1, rfl⟩
  · rcases Y2.out with ⟨x2, g2, e2, l2, e⟩ | ⟨g2, e⟩
    · subst e
      rcases Y3.out with ⟨x3, g3, e3, l3, e⟩ | ⟨g3, e⟩
      · subst e
        rw [e1, e2, e3, Nat.add_sub_cancel, Nat.add_sub_cancel, Nat.add_sub_cancel] at hr
        obtain ⟨v, hv⟩ : ∃ v, v = (c - 240) * 262144 + x1 * 4096 + x2 * 64 + x3 := ⟨_, rfl⟩
        rw [← hv] at hr
        obtain ⟨vi, hv3⟩ : ∃ vi : Int, (v : Int) = vi := ⟨_, rfl⟩
        have hvi : ((c : Int) - 240) * 262144 + (x1 : Int) * 4096 + (x2 : Int) * 64 + (x3 : Int) = vi := by omega
        have hvi2 : ((c - 240 : Nat) : Int) * 262144 + (x1 : Int) * 4096 + (x2 : Int) * 64 + (x3 : Int) = vi := by omega
        clear e1 e2 e3 hv
        by_cases hok : 65536 ≤ v ∧ v ≤ 1114111
        · rw [if_pos ⟨g1, g2, g3, hok⟩] at hr
          have HR := Lib.hid hr; clear hr g1 g2 g3
          have k1 : 65536 ≤ vi := by omega
          have k2 : vi ≤ 1114111 := by omega
          have HV := Lib.hid hv3; clear hv3 hok
          go_wp2
          all_goals
            go_ret2
            exact ⟨by rw [HR.out]; simp only []; rw [HV.out]; rfl, rfl⟩
        · rw [if_neg (fun h => hok h.2.2.2)] at hr
          have HR := Lib.hid hr; clear hr g1 g2 g3
          have k3 : vi < 65536 ∨ (65536 ≤ vi ∧ 1114111 < vi) := by omega
          clear hok hv3
          rcases k3 with k3 | ⟨k3, k4⟩
          ·
            go_wp2
            all_goals
              go_ret2
              exact ⟨by rw [HR.out]; rfl, rfl⟩
          ·
            go_wp2
            all_goals
              go_ret2
              exact ⟨by rw [HR.out]; rfl, rfl⟩
      · subst e
        rw [if_neg (fun h => g3 h.2.2.1)] at hr
        have HR := Lib.hid hr; clear hr g1 g2 g3 e1 e2
        go_wp2
        all_goals
          go_ret2
          exact ⟨by rw [HR.out]; rfl, rfl⟩
    · subst e
      rw [if_neg (fun h => g2 h.2.1)] at hr
      have HR := Lib.hid hr; clear hr g1 g2 e1
      go_wp2
      all_goals
        go_ret2
        exact ⟨by rw [HR.out]; rfl, rfl⟩
  · rw [if_neg (fun h => g1 h.1)] at hr
    have HR := Lib.hid hr; clear hr g1
    go_wp2
    all_goals
      go_ret2
      exact ⟨by rw [HR.out]; rfl, rfl⟩
end Go.Proofs.YtgmemdedpklnhaaGreat.Utf
