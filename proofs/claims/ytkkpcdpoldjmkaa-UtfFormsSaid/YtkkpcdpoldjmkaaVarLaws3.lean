/-
  THE WALK of VarintBack.
-/
import Derived.Test.YtkkpcdpoldjmkaaVarLaws2
namespace Go.Proofs.Ytkkpcdpoldjmkaa.Varint
open Go.RowKit VarMath Sl Go.ChangeShapes Go.WideShapes

theorem append_x (pre S : ByteArray) (l : List UInt8) (hS : S = str l) : (pre ++ S ++ ({ data := #[120] } : ByteArray)).data.toList = pre.data.toList ++ (l ++ [120]) := by
  subst hS; rw [append_toList, append_toList]; simp

theorem not_empty {s : ByteArray} (h : s.size ≠ 0) : s.toList.isEmpty = false := by
  rw [Lib.toList_data, List.isEmpty_eq_false_iff]
  intro e; apply h; rw [show s.size = s.data.toList.length by simp, e]; rfl
set_option maxRecDepth 100000 in
set_option maxHeartbeats 8000000 in
theorem varintBack_any (x : Int) (pre : ByteArray) (w : World) (hx : (Lit.int .i64 x).wf = true) (hs : pre.size ≤ 140737488351232) :
    Calls Try.prog 19 #[.int .i64 x, .string pre] w fun e w' => e = .returned (.bool true) ∧ Below w.heap.size w w' := by
  have b1 := bounds_i64 hx
  clear hx
  obtain ⟨y, hy⟩ : ∃ y : Nat, (y : Int) = if x < 0 then -(x + 1) else x := ⟨(if x < 0 then -(x + 1) else x).toNat, by split <;> omega⟩
  have hyl : y < 9223372036854775808 := by split at hy <;> omega
  have hn1 := enc_length_le y
  have hn1p := enc_pos y
  have hn2 := enc_length_le (zig x)
  have hn2p := enc_pos (zig x)
  have hps : pre.data.toList.length = pre.size := by simp
  have HP : ∀ (z : Int) w, z = (y : Int) → Calls Try.prog 91 #[.int .i64 z] w fun e w' => e = .returned (.tuple #[.string (str (enc y)), .int .i64 0]) ∧ Below w.heap.size w w' := fun z w hz => Put_of _ z w hz hyl
  have HZ : ∀ w, Calls Try.prog 97 #[.int .i64 x] w fun e w' => e = .returned (.string (str (enc (zig x)))) ∧ Below w.heap.size w w' := fun w => Zig_any x w (by omega) (by omega)
  have hs1 : (pre ++ str (enc y) ++ ({ data := #[120] } : ByteArray)).size ≤ maxReach := by rw [ByteArray.size_append, ByteArray.size_append, enc_size]; unfold maxReach; show _ + _ + 1 ≤ _; omega
  have hs2 : (pre ++ str (enc (zig x)) ++ ({ data := #[120] } : ByteArray)).size ≤ maxReach := by rw [ByteArray.size_append, ByteArray.size_append, enc_size]; unfold maxReach; show _ + _ + 1 ≤ _; omega
  have HG : ∀ w, Calls Try.prog 93 #[.string (pre ++ str (enc y) ++ { data := #[120] }), .int .i64 (pre.size : Nat)] w fun e w' => e = .returned (.tuple #[.int .i64 (y : Nat), .int .i64 ((pre.size + (enc y).length : Nat) : Int), .int .i64 0]) ∧ w = w' := fun w => by
    have := Get_of _ pre.data.toList [120] y (pre.size : Nat) w hs1 (append_x _ _ _ rfl) (by rw [hps]) hyl
    rw [hps] at this; exact this
  have HA : ∀ w, Calls Try.prog 95 #[.string (pre ++ str (enc (zig x)) ++ { data := #[120] }), .int .i64 (pre.size : Nat)] w fun e w' => e = .returned (.tuple #[.int .i64 x, .int .i64 ((pre.size + (enc (zig x)).length : Nat) : Int), .int .i64 0]) ∧ w = w' := fun w => by
    have := Zag_of _ pre.data.toList [120] x (pre.size : Nat) w hs2 (append_x _ _ _ rfl) (by rw [hps]) (by omega) (by omega)
    rw [hps] at this; exact this
  obtain ⟨b, hb⟩ : ∃ b : Nat, b = byteAt (enc y) ((enc y).length - 1) % 128 + 128 := ⟨_, rfl⟩
  have hbl : b < 256 := by omega
  have hB := byteAt_lt (enc y) ((enc y).length - 1)
  have hor : bits .or .u8 ((byteAt (enc y) ((enc y).length - 1) : Nat) : Int) 128 = (b : Int) := by rw [hb]; exact or128_u8 _ hB
  have hF := set_last_form 63 (fits (x := y) (by omega)) (Nat.le_refl 9) (UInt8.ofNat b) (by rw [UInt8.toNat_ofNat', Nat.mod_eq_of_lt (by omega)]; omega)
  have hC := cut_form 63 (fits (x := y) (by omega))
  have HL : ∀ w, Calls Try.prog 93 #[.string (str ((enc y).set ((enc y).length - 1) (UInt8.ofNat b)) ++ { data := #[0] }), .int .i64 0] w fun e w' => e = .returned (.tuple #[.int .i64 0, .int .i64 0, .int .i64 501]) ∧ w = w' := fun w => by
    have h := Get_any (str ((enc y).set ((enc y).length - 1) (UInt8.ofNat b)) ++ { data := #[0] }) 0 w (by rw [ByteArray.size_append, str_size, List.length_set]; unfold maxReach; show _ + 1 ≤ _; omega) (by omega) (by omega)
    have e : (str ((enc y).set ((enc y).length - 1) (UInt8.ofNat b)) ++ ({ data := #[0] } : ByteArray)).data.toList = (put 9 y).set ((put 9 y).length - 1) (UInt8.ofNat b) ++ [0] := by rw [append_toList]; rfl
    rw [e] at h
    obtain ⟨e1, e2, e3⟩ := g_in (bits := 63) (l := (put 9 y).set ((put 9 y).length - 1) (UInt8.ofNat b) ++ [0]) (a := 0) (by omega) (c := 2) (by rw [List.drop_zero]; exact hF)
    rw [show ((0 : Nat) : Int) = 0 from rfl] at e1 e2 e3
    rw [e1, e2, e3] at h; exact h
  have HT : ∀ w, Calls Try.prog 93 #[.string (str ((enc y).take ((enc y).length - 1))), .int .i64 0] w fun e w' => e = .returned (.tuple #[.int .i64 0, .int .i64 0, .int .i64 500]) ∧ w = w' := fun w => by
    have h := Get_any (str ((enc y).take ((enc y).length - 1))) 0 w (by rw [str_size, List.length_take]; unfold maxReach; omega) (by omega) (by omega)
    rw [str_toList] at h
    obtain ⟨e1, e2, e3⟩ := g_in (bits := 63) (l := (enc y).take ((enc y).length - 1)) (a := 0) (by omega) (c := 1) (by rw [List.drop_zero]; exact hC)
    rw [show ((0 : Nat) : Int) = 0 from rfl] at e1 e2 e3
    rw [e1, e2, e3] at h; exact h
  have hset := fun j => byteAt_set (enc y) ((enc y).length - 1) j (UInt8.ofNat b) (by omega)
  have hex : (str (enc y)).extract 0 ((enc y).length - 1) = str ((enc y).take ((enc y).length - 1)) := Crc.extract_str (str (enc y)) ((enc y).length - 1)
  have hz1 : (str (enc y)).size = (enc y).length := enc_size y
  have hz2 : (str (enc (zig x))).size = (enc (zig x)).length := enc_size _
  have hlen : ((enc y).set ((enc y).length - 1) (UInt8.ofNat b)).length = (enc y).length := by rw [List.length_set]
  generalize (enc y).take ((enc y).length - 1) = T at *
  generalize (enc y).set ((enc y).length - 1) (UInt8.ofNat b) = LL at *
  generalize str (enc (zig x)) = Z at *
  generalize (enc (zig x)).length = n2 at *
  obtain ⟨n1, hn1e⟩ : ∃ n1, n1 = (enc y).length - 1 := ⟨_, rfl⟩
  have hn1f : (enc y).length = n1 + 1 := by omega
  have hn1g : n1 ≤ 9 := by omega
  rw [← hn1e] at hset hor hex
  generalize hEL : (enc y).length = L at *
  generalize enc y = EY at *
  subst hn1f
  have hstr : ∀ j, j < n1 + 1 → True := fun _ _ => trivial
  clear hstr hF hC hps hs1 hs2 hb hn1e
  have HEY := Lib.hid (And.intro hEL (And.intro hset hlen)); clear hEL hset hlen
  have HHP := Lib.hid HP; clear HP
  have HHZ := Lib.hid HZ; clear HZ
  have HHG := Lib.hid HG; clear HG
  have HHA := Lib.hid HA; clear HA
  have HHL := Lib.hid HL; clear HL
  have HHT := Lib.hid HT; clear HT
  have hne1 : (str EY).toList.isEmpty = false := not_empty (by rw [hz1]; omega)
  have hne2 : Z.toList.isEmpty = false := not_empty (by rw [hz2]; omega)
  have hzl : (str LL).size = n1 + 1 := by rw [str_size]; exact HEY.out.2.2.trans rfl
  clear hn1 hn1p hn2p hB
  have hyx : (x < 0 → -(x + 1) = (y : Int)) ∧ (0 ≤ x → x = (y : Int)) := ⟨fun h => by rw [if_pos h] at hy; omega, fun h => by rw [if_neg (by omega)] at hy; omega⟩
  have HYX := Lib.hid hyx; clear hyx hy
  by_cases h0 : x < 0
  · have he := HYX.out.1 h0
    go_enter Try.func19, Try.ntmps19
    go_wp2_with (first
      | (go_at_call 99; with_reducible refine (awake_any _).mono ?_; rintro e w1 ⟨rfl, hb1⟩)
      | (go_at_call 91; with_reducible refine (HHP.out _ _ (by first | rfl | exact he)).mono ?_; rintro e w2 ⟨rfl, hb2⟩)
      | (go_at_call 97; with_reducible refine (HHZ.out _).mono ?_; rintro e w3 ⟨rfl, hb3⟩)
      | (go_at_call 93; with_reducible refine (HHG.out _).mono ?_; rintro e w' ⟨rfl, rfl⟩)
      | (go_at_call 95; with_reducible refine (HHA.out _).mono ?_; rintro e w' ⟨rfl, rfl⟩)
      | (go_at_call 93; with_reducible refine (HHL.out _).mono ?_; rintro e w' ⟨rfl, rfl⟩)
      | (go_at_call 93; with_reducible refine (HHT.out _).mono ?_; rintro e w' ⟨rfl, rfl⟩)
      | (refine wpList_to_bytes rfl 9 32 5 (.tmp 70) rfl (str EY) rfl Try.underlying9 Try.underlying32 Try.underlying5 ?_; intro c W hcap hcells hfree hb5 hsz; rw [hz1] at hcells hfree hcap; have hc1 : W.cell? ⟨w3.heap.size, n1, none⟩ = some (.int .u8 (byteAt EY n1 : Nat)) := hcells n1 (by omega); have hf1 := hfree n1 (by omega))
      | (refine wpList_to_string rfl 32 9 5 (.tmp 85) rfl w3.heap.size LL (n1 + 1) c rfl HEY.out.2.2 Try.underlying32 Try.underlying5 Try.underlying9 (Crc.turned_cells hcells (Below.refl _ _) (by omega) (by omega) hbl HEY.out.2.1) ?_)
      | (go_at_call 56; with_reducible refine (boathouseNames.num_any _ _).mono ?_; rintro e w' ⟨rfl, rfl⟩))
    go_ret
    exact ⟨rfl, (bthen (bthen (bthen hb1 hb2 (Nat.le_refl _)) hb3 (Nat.le_refl _)) hb5 (Nat.le_refl _)).setCell (p := ⟨w3.heap.size, n1, none⟩) (bthen (bthen hb1 hb2 (Nat.le_refl _)) hb3 (Nat.le_refl _)).size _⟩
  · have he := HYX.out.2 (by omega)
    clear h0
    subst he
    have h0 : ¬ ((y : Int) < 0) := by omega
    go_enter Try.func19, Try.ntmps19
    go_wp2_with (first
      | (go_at_call 99; with_reducible refine (awake_any _).mono ?_; rintro e w1 ⟨rfl, hb1⟩)
      | (go_at_call 91; with_reducible refine (HHP.out _ _ (by first | rfl | exact he)).mono ?_; rintro e w2 ⟨rfl, hb2⟩)
      | (go_at_call 97; with_reducible refine (HHZ.out _).mono ?_; rintro e w3 ⟨rfl, hb3⟩)
      | (go_at_call 93; with_reducible refine (HHG.out _).mono ?_; rintro e w' ⟨rfl, rfl⟩)
      | (go_at_call 95; with_reducible refine (HHA.out _).mono ?_; rintro e w' ⟨rfl, rfl⟩)
      | (go_at_call 93; with_reducible refine (HHL.out _).mono ?_; rintro e w' ⟨rfl, rfl⟩)
      | (go_at_call 93; with_reducible refine (HHT.out _).mono ?_; rintro e w' ⟨rfl, rfl⟩)
      | (refine wpList_to_bytes rfl 9 32 5 (.tmp 70) rfl (str EY) rfl Try.underlying9 Try.underlying32 Try.underlying5 ?_; intro c W hcap hcells hfree hb5 hsz; rw [hz1] at hcells hfree hcap; have hc1 : W.cell? ⟨w3.heap.size, n1, none⟩ = some (.int .u8 (byteAt EY n1 : Nat)) := hcells n1 (by omega); have hf1 := hfree n1 (by omega))
      | (refine wpList_to_string rfl 32 9 5 (.tmp 85) rfl w3.heap.size LL (n1 + 1) c rfl HEY.out.2.2 Try.underlying32 Try.underlying5 Try.underlying9 (Crc.turned_cells hcells (Below.refl _ _) (by omega) (by omega) hbl HEY.out.2.1) ?_)
      | (go_at_call 56; with_reducible refine (boathouseNames.num_any _ _).mono ?_; rintro e w' ⟨rfl, rfl⟩))
    go_ret
    exact ⟨rfl, (bthen (bthen (bthen hb1 hb2 (Nat.le_refl _)) hb3 (Nat.le_refl _)) hb5 (Nat.le_refl _)).setCell (p := ⟨w3.heap.size, n1, none⟩) (bthen (bthen hb1 hb2 (Nat.le_refl _)) hb3 (Nat.le_refl _)).size _⟩
end Go.Proofs.Ytkkpcdpoldjmkaa.Varint
