/-
  THE WALK of runs.Join.
-/
import Derived.Test.YtkkpcdpoldjmkaaCutR
namespace Go.Proofs.Ytkkpcdpoldjmkaa.Runs
open Go.RowKit ValMath Vals Sl

def joinVals (xs : List Int) (vs : List Val) : List Val := (join xs vs).getD []
def joinCode (xs : List Int) (vs : List Val) : Int := if (join xs vs).isSome then 0 else 700
theorem join_bad {xs : List Int} {vs : List Val} (h : join xs vs = none) : joinVals xs vs = [] ∧ joinCode xs vs = 700 := by unfold joinVals joinCode; rw [h]; exact ⟨rfl, rfl⟩
theorem join_good {xs : List Int} {vs out : List Val} (h : join xs vs = some out) : joinVals xs vs = out ∧ joinCode xs vs = 0 := by unfold joinVals joinCode; rw [h]; exact ⟨rfl, rfl⟩

theorem ret_vi {u : Value} {k : IntKind} {a b : Int} (h : a = b) : Ending.returned (.tuple #[u, .int k a]) = .returned (.tuple #[u, .int k b]) := by rw [h]
theorem own_form_v {w : World} {B : Nat} {v : Value} {vs : List Val} (h : OwnV w B v vs) : ∃ A c, v = .slice A vs.length c := by
  obtain ⟨A, c, e, _⟩ := h.form; exact ⟨A, c, e⟩


set_option maxRecDepth 20000 in
set_option maxHeartbeats 2000000 in
theorem join_any (A C : Option Addr) (n m c d : Nat) (xs : List Int) (vs : List Val) (w : World) (hx : ISl w A n xs) (hv : VSl w C m vs) (hn : n ≤ 140737488351232) (hm : m ≤ 140737488351232) :
    Calls Try.prog 62 #[.slice A n c, .slice C m d] w fun e w' => ∃ u, e = .returned (.tuple #[u, .int .i64 (joinCode xs vs)]) ∧ OwnV w' w.heap.size u (joinVals xs vs) ∧ Below w.heap.size w w' := by
  by_cases hnm : n = m
  · subst hnm
    have hll : xs.length = vs.length := hx.1.trans hv.1.symm
    have HLL := Lib.hid hll; clear hll
    go_enter Try.func62, Try.ntmps62
    go_wp2
    go_loopw [6, 17] (fun v6 i wr => ∃ k : Nat, k ≤ n ∧ i = .int .i64 k ∧ ∃ out, joinK xs vs k = some out ∧ OwnV wr w.heap.size v6 out ∧ Below w.heap.size w wr)
      (fun _ i _ => n - (intOf i).toNat)
    case atStart => exact ⟨0, Nat.zero_le _, rfl, [], rfl, OwnV.nil _ _, Below.refl _ _⟩
    case round =>
      obtain ⟨k, hk, rfl, out, hJ, hO, hb⟩ := hrel
      obtain ⟨A6, c6, rfl⟩ := own_form_v hO
      have hol := joinK_len hJ
      by_cases hlt : k < n
      · obtain ⟨b1, o1, x, hx1, rfl, hb1, a0⟩ := hx.at_ hlt
        obtain ⟨b2, o2, v, hv1, rfl, hb2, c0, c1, c2, c3⟩ := hv.at_ hlt
        have hbc := (bcell hb).1
        have hsz := hb.size
        have hxd : xs.getD k 0 = x := by rw [List.getD_eq_getElem?_getD, hx1]; rfl
        have hvd : vs.getD k nul = v := by rw [List.getD_eq_getElem?_getD, hv1]; rfl
        have hkl : k < vs.length := by rw [hv.1]; exact hlt
        have hpv : 0 < k → ∃ p, vs.getD (k - 1) nul = p ∧ w.cell? ⟨b2, o2 + (k - 1) * 4, none⟩ = some (.int .i64 p.k) ∧ w.cell? ⟨b2, o2 + (k - 1) * 4 + 1, none⟩ = some (.int .i64 p.i) ∧ w.cell? ⟨b2, o2 + (k - 1) * 4 + 2, none⟩ = some (.bool p.b) ∧ w.cell? ⟨b2, o2 + (k - 1) * 4 + 3, none⟩ = some (.string p.s) := fun h0 => by
          obtain ⟨b3, o3, p, hp1, hA3, _, e0, e1, e2, e3⟩ := hv.at_ (k := k - 1) (by omega)
          injection hA3 with hA3; injection hA3 with h1 h2; subst h1; subst h2
          exact ⟨p, by rw [List.getD_eq_getElem?_getD, hp1]; rfl, e0, e1, e2, e3⟩
        have hG : ¬ joinBad xs vs k out.length → joinK xs vs (k + 1) = some (out ++ List.replicate x.toNat (clean v)) := fun hb => by rw [joinK_good hJ hb, hxd, hvd]
        have hBd : joinBad xs vs k out.length → joinVals xs vs = [] ∧ joinCode xs vs = 700 := fun hb => join_bad (join_stop HLL.out hJ hb hkl)
        have hbd : joinBad xs vs k out.length ↔ (x < 1 ∨ 4096 - (out.length : Int) < x ∨ (0 < k ∧ clean (vs.getD (k - 1) nul) = clean v)) := by unfold joinBad; rw [hxd, hvd]
        rw [hbd] at hG hBd
        have hp := plain_any v
        have hpp := fun p : Val => plain_any p
        generalize hu : clean v = u at hp hG hBd
        have HH := Lib.hid (And.intro hG (And.intro hBd (And.intro hpv (And.intro hpp (And.intro hx1 (And.intro hv1 (And.intro hxd (And.intro hvd (And.intro hJ (And.intro hbd (And.intro hx (And.intro hv hu)))))))))))); clear hG hBd hpv hpp hx1 hv1 hxd hvd hJ hbd hx hv hu
        obtain ⟨kv, iv, bv, sv⟩ := v
        obtain ⟨ku, iu, bu, su⟩ := u
        simp only [] at c0 c1 c2 c3 hp
        have HP := Lib.hid hp; clear hp
        have HO := Lib.hid hO; clear hO
        go_upto_region 8 with (first
          | (go_at_call 130; with_reducible refine (HP.out _).mono ?_; rintro e w1 ⟨rfl, hbP⟩))
        have h40 : At4 (w1.alloc (.cells #[.int .i64 ku, .int .i64 iu, .bool bu, .string su] 52)) w1.heap.size 0 ⟨ku, iu, bu, su⟩ := by
          obtain ⟨e0, e1, e2, e3⟩ := (Box.new w1 ⟨ku, iu, bu, su⟩).cells
          exact ⟨e0, e1, e2, e3⟩
        have hb0 : Below w.heap.size w (w1.alloc (.cells #[.int .i64 ku, .int .i64 iu, .bool bu, .string su] 52)) := (bthen hb hbP (Nat.le_refl _)).alloc (bthen hb hbP (Nat.le_refl _)).size _
        have hO0 : OwnV (w1.alloc (.cells #[.int .i64 ku, .int .i64 iu, .bool bu, .string su] 52)) w.heap.size (.slice A6 out.length c6) out := (HO.out.below hbP).alloc _
        have hne0 : (Value.slice A6 out.length c6).ownBlock ≠ some w1.heap.size := own_lt (HO.out.below hbP) (Nat.le_refl _)
        have hg90 : w1.heap.size < (w1.alloc (.cells #[.int .i64 ku, .int .i64 iu, .bool bu, .string su] 52)).heap.size := by simp
        clear hbP hb hbc hsz HP HO
        generalize hW0 : w1.alloc (.cells #[.int .i64 ku, .int .i64 iu, .bool bu, .string su] 52) = W0 at *
        generalize w1.heap.size = g9 at *
        clear hW0
        have hb4 := h40
        obtain ⟨z0, z1, z2, z3⟩ := h40.zero
        simp only [] at z0 z1 z2 z3
        clear h40
        have HNE := Lib.hid hne0; clear hne0
        have HO0 := Lib.hid hO0; clear hO0
        have HB4 := Lib.hid hb4; clear hb4
        have hbc := (bcell hb0).1
        have hsz := hb0.size
        have hw0 : IntKind.i64.wrap (4096 - (out.length : Int)) = 4096 - (out.length : Int) := IntWalk.i64_in _ (by omega)
        by_cases x1 : x < 1
        · have hB := HH.out.2.1 (.inl x1)
          have HB := Lib.hid hB; clear hB
          have hd : decide (x < 1) = true := decide_eq_true x1
          go_quiet (fail)
          have hbz := below_drewN hb0 nq
          go_wp2
          go_ret2
          exact ⟨_, ret_vi HB.out.2.symm, by rw [HB.out.1]; exact OwnV.nil _ _, hbz⟩
        · have hd : decide (x < 1) = false := decide_eq_false x1
          by_cases x2 : 4096 - (out.length : Int) < x
          · have hB := HH.out.2.1 (.inr (.inl x2))
            have HB := Lib.hid hB; clear hB
            have hd2 : decide (4096 - (out.length : Int) < x) = true := decide_eq_true x2
            go_quiet (fail)
            have hbz := below_drewN hb0 nq
            go_wp2
            go_ret2
            exact ⟨_, ret_vi HB.out.2.symm, by rw [HB.out.1]; exact OwnV.nil _ _, hbz⟩
          · have hd2 : decide (4096 - (out.length : Int) < x) = false := decide_eq_false x2
            rcases Nat.eq_zero_or_pos k with hk0 | hk0
            · have hG := HH.out.1 (by omega)
              have HG := Lib.hid hG; clear hG
              have hd3 : decide ((0 : Int) < (k : Int)) = false := by simp [hk0]
              have hd4 : decide (0 < k) = false := by simp [hk0]
              clear hk0
              go_quiet (fail)
              have hbz := below_drewN hb0 nq
              have HO := Lib.hid (HO0.out.drewN nq); clear HO0
              have hb4 := HB4.out.drewN nq
              clear HB4 z0 z1 z2 z3
              have hg9 : g9 < (W0.drewN nq).heap.size := hg90
              generalize W0.drewN nq = wz at *
              obtain ⟨z0, z1, z2, z3⟩ := hb4.zero
              simp only [] at z0 z1 z2 z3
              clear hb4
              go_wp2
              obtain ⟨wo, rfl⟩ : ∃ wo : World, wo = wz := ⟨_, rfl⟩
              go_loopw [6, 51] (fun v6 j wi => ∃ q : Nat, q ≤ x.toNat ∧ j = .int .i64 q ∧ OwnV wi w.heap.size v6 (out ++ List.replicate q ⟨ku, iu, bu, su⟩) ∧ v6.ownBlock ≠ some g9 ∧ At4 wi g9 0 ⟨ku, iu, bu, su⟩ ∧ g9 < wi.heap.size ∧ Below w.heap.size w wi)
                (fun _ j _ => x.toNat - (intOf j).toNat)
              case atStart => exact ⟨0, Nat.zero_le _, rfl, by rw [List.replicate_zero, List.append_nil]; exact HO.out, HNE.out, ⟨z0, z1, z2, z3⟩, hg9, hbz⟩
              case round =>
                obtain ⟨q, hq, rfl, hOq, hneq, hA4, hgi, hbi⟩ := hrel
                obtain ⟨Aq, cq, rfl⟩ := own_form_v hOq
                obtain ⟨i0, i1, i2, i3⟩ := hA4.zero
                simp only [] at i0 i1 i2 i3
                have hrl : (out ++ List.replicate q (⟨ku, iu, bu, su⟩ : Val)).length = out.length + q := by simp
                rw [hrl] at hOq hneq ⊢
                have hlq : (out ++ List.replicate q (⟨ku, iu, bu, su⟩ : Val)).length < few := by rw [hrl]; unfold few; omega
                have HOQ := Lib.hid hOq; clear hOq
                have HNQ := Lib.hid hneq; clear hneq
                have HRL := Lib.hid hrl; clear hrl
                have hszi := hbi.size
                by_cases hql : q < x.toNat
                · have hqx : (q : Int) < x := by omega
                  go_wp2_with (refine wpList_push_val rfl _ _ rfl w.heap.size _ (out ++ List.replicate q ⟨ku, iu, bu, su⟩) ⟨ku, iu, bu, su⟩ wr.heap.size 1 rfl rfl (t := 52) (fr := (0, 0)) (heap_alloc_new wr _) (HOQ.out.alloc _) hlq (Below.size (hbi.alloc hbi.size _)) ?_; intro u6 wA hA hgA hatA; have hbA := (hbi.alloc hbi.size _).grown hgA (Below.size (hbi.alloc hbi.size _)) (own_base HOQ.out); have h4 : At4 wA g9 0 ⟨ku, iu, bu, su⟩ := (At4.alloc ⟨i0, i1, i2, i3⟩ hgi _).grown hgA (fun e => HNQ.out e.symm); have hneA : u6.ownBlock ≠ some g9 := (fun e => by rcases hatA with h | h; exact HNQ.out (h.symm.trans e); rw [h] at e; injection e with e; simp at e; omega); have hgA9 : g9 < wA.heap.size := Nat.lt_of_lt_of_le hgi (Nat.le_trans (by simp) hgA.size); have HA := Lib.hid hA; have HNA := Lib.hid hneA; have H4 := Lib.hid h4; clear hA hgA hatA hneA h4 i0 i1 i2 i3)
                  go_roundw
                  case rel => exact ⟨q + 1, by omega, by go_num, by rw [List.replicate_succ', ← List.append_assoc]; exact HA.out, HNA.out, H4.out, hgA9, hbA⟩
                  case measure => simp [intOf]; omega
                · have hqe : ¬ (q : Int) < x := by omega
                  go_wp2
                  go_roundw
                  case rel => exact ⟨k + 1, by omega, by go_num, _, HG.out, by rw [← show q = x.toNat by omega]; exact HOQ.out, hbi⟩
                  case measure => simp [intOf]; omega
            · obtain ⟨p, hpd, e0, e1, e2, e3⟩ := HH.out.2.2.1 hk0
              have hPP := HH.out.2.2.2.1 p
              have hbad : clean p = ⟨ku, iu, bu, su⟩ → joinVals xs vs = [] ∧ joinCode xs vs = 700 := fun e => HH.out.2.1 (.inr (.inr ⟨hk0, by rw [hpd]; exact e⟩))
              have hgood : clean p ≠ ⟨ku, iu, bu, su⟩ → joinK xs vs (k + 1) = some (out ++ List.replicate x.toNat ⟨ku, iu, bu, su⟩) := fun e => HH.out.1 (by rw [hpd]; rintro (h | h | ⟨_, h⟩); exact x1 h; exact x2 h; exact e h)
              generalize clean p = pu at hPP hbad hgood
              clear HH hpd
              obtain ⟨kp, ip, bp, sp⟩ := p
              obtain ⟨kq, iq, bq, sq⟩ := pu
              simp only [] at e0 e1 e2 e3 hPP
              have HPP := Lib.hid hPP; clear hPP
              obtain ⟨k', rfl⟩ : ∃ k', k = k' + 1 := ⟨k - 1, by omega⟩
              rw [Nat.add_sub_cancel] at e0 e1 e2 e3
              have hd3 : decide ((0 : Int) < ((k' + 1 : Nat) : Int)) = true := decide_eq_true (by omega)
              have hd4 : decide (0 < k' + 1) = true := decide_eq_true (by omega)
              have hw6 : IntKind.i64.wrap (k' : Int) = (k' : Int) := IntWalk.i64_in _ (by omega)
              have hw2 : (0 : Int) ≤ (k' : Int) := by omega
              have hw3 : (k' : Int) < (n : Int) := by omega
              have hg := fun x y W => guard_val .eql x y #[.int .i64 kq, .int .i64 iq, .bool bq, .string sq] #[.int .i64 ku, .int .i64 iu, .bool bu, .string su] W
              have hp4 : At4 W0 b2 (o2 + k' * 4) ⟨kp, ip, bp, sp⟩ := At4.below ⟨e0, e1, e2, e3⟩ hb0 hb2
              have HP4 := Lib.hid hp4; clear hp4
              have hb2' : b2 < W0.heap.size := Nat.lt_of_lt_of_le hb2 hsz
              by_cases hee : (⟨kq, iq, bq, sq⟩ : Val) = ⟨ku, iu, bu, su⟩
              · have hB := hbad hee
                have HB := Lib.hid hB
                have hq : ∀ W, (binOp .eql 52 (.agg #[.int .i64 kq, .int .i64 iq, .bool bq, .string sq]) (.agg #[.int .i64 ku, .int .i64 iu, .bool bu, .string su])).run Try.prog W = .ok (.bool true) W := fun W => by
                  rw [eql_val ⟨kq, iq, bq, sq⟩ ⟨ku, iu, bu, su⟩ W, decide_eq_true hee]
                clear hB hbad hgood hee
                go_region_held3 (fun w' => (w'.cell? ⟨g9, 0, none⟩ = some (.int .i64 ku) ∧ w'.cell? ⟨g9, 1, none⟩ = some (.int .i64 iu) ∧ w'.cell? ⟨g9, 2, none⟩ = some (.bool bu) ∧ w'.cell? ⟨g9, 3, none⟩ = some (.string su)) ∧
                    (w'.cell? ⟨b2, o2 + k' * 4, none⟩ = some (.int .i64 kp) ∧ w'.cell? ⟨b2, o2 + k' * 4 + 1, none⟩ = some (.int .i64 ip) ∧ w'.cell? ⟨b2, o2 + k' * 4 + 2, none⟩ = some (.bool bp) ∧ w'.cell? ⟨b2, o2 + k' * 4 + 3, none⟩ = some (.string sp)))
                  (first | go_keep | exact ⟨(HB4.out.drew.below hbK hg90).zero, HP4.out.drew.below hbK hb2'⟩)
                  ((first | (go_at_call 130; with_reducible refine (HPP.out _).mono ?_; rintro e w2 ⟨rfl, hbK⟩)))
                have hbz := bthen hb0.drew hbK (Nat.le_refl _)
                go_wp2
                go_ret2
                exact ⟨_, ret_vi HB.out.2.symm, by rw [HB.out.1]; exact OwnV.nil _ _, hbz⟩
              · have hG := hgood hee
                have HG := Lib.hid hG
                have hq : ∀ W, (binOp .eql 52 (.agg #[.int .i64 kq, .int .i64 iq, .bool bq, .string sq]) (.agg #[.int .i64 ku, .int .i64 iu, .bool bu, .string su])).run Try.prog W = .ok (.bool false) W := fun W => by
                  rw [eql_val ⟨kq, iq, bq, sq⟩ ⟨ku, iu, bu, su⟩ W, decide_eq_false hee]
                clear hG hbad hgood hee
                go_region_held3 (fun w' => (w'.cell? ⟨g9, 0, none⟩ = some (.int .i64 ku) ∧ w'.cell? ⟨g9, 1, none⟩ = some (.int .i64 iu) ∧ w'.cell? ⟨g9, 2, none⟩ = some (.bool bu) ∧ w'.cell? ⟨g9, 3, none⟩ = some (.string su)) ∧
                    (w'.cell? ⟨b2, o2 + k' * 4, none⟩ = some (.int .i64 kp) ∧ w'.cell? ⟨b2, o2 + k' * 4 + 1, none⟩ = some (.int .i64 ip) ∧ w'.cell? ⟨b2, o2 + k' * 4 + 2, none⟩ = some (.bool bp) ∧ w'.cell? ⟨b2, o2 + k' * 4 + 3, none⟩ = some (.string sp)))
                  (first | go_keep | exact ⟨(HB4.out.drew.below hbK hg90).zero, HP4.out.drew.below hbK hb2'⟩)
                  ((first | (go_at_call 130; with_reducible refine (HPP.out _).mono ?_; rintro e wz ⟨rfl, hbK⟩)))
                have hbz := bthen hb0.drew hbK (Nat.le_refl _)
                have HO := Lib.hid (HO0.out.drew.below hbK); clear HO0
                have hb4 := HB4.out.drew.below hbK hg90
                have hg9 : g9 < wz.heap.size := Nat.lt_of_lt_of_le hg90 hbK.size
                clear HB4 z0 z1 z2 z3 hbK HP4 hbc hsz hb0
                obtain ⟨z0, z1, z2, z3⟩ := hb4.zero
                simp only [] at z0 z1 z2 z3
                clear hb4
                have hbc := (bcell hbz).1
                go_wp2
                obtain ⟨wo, rfl⟩ : ∃ wo : World, wo = wz := ⟨_, rfl⟩
                go_loopw [6, 51] (fun v6 j wi => ∃ q : Nat, q ≤ x.toNat ∧ j = .int .i64 q ∧ OwnV wi w.heap.size v6 (out ++ List.replicate q ⟨ku, iu, bu, su⟩) ∧ v6.ownBlock ≠ some g9 ∧ At4 wi g9 0 ⟨ku, iu, bu, su⟩ ∧ g9 < wi.heap.size ∧ Below w.heap.size w wi)
                  (fun _ j _ => x.toNat - (intOf j).toNat)
                case atStart => exact ⟨0, Nat.zero_le _, rfl, by rw [List.replicate_zero, List.append_nil]; exact HO.out, HNE.out, ⟨z0, z1, z2, z3⟩, hg9, hbz⟩
                case round =>
                  obtain ⟨q, hq, rfl, hOq, hneq, hA4, hgi, hbi⟩ := hrel
                  obtain ⟨Aq, cq, rfl⟩ := own_form_v hOq
                  obtain ⟨i0, i1, i2, i3⟩ := hA4.zero
                  simp only [] at i0 i1 i2 i3
                  have hrl : (out ++ List.replicate q (⟨ku, iu, bu, su⟩ : Val)).length = out.length + q := by simp
                  rw [hrl] at hOq hneq ⊢
                  have hlq : (out ++ List.replicate q (⟨ku, iu, bu, su⟩ : Val)).length < few := by rw [hrl]; unfold few; omega
                  have HOQ := Lib.hid hOq; clear hOq
                  have HNQ := Lib.hid hneq; clear hneq
                  have HRL := Lib.hid hrl; clear hrl
                  have hszi := hbi.size
                  by_cases hql : q < x.toNat
                  · have hqx : (q : Int) < x := by omega
                    go_wp2_with (refine wpList_push_val rfl _ _ rfl w.heap.size _ (out ++ List.replicate q ⟨ku, iu, bu, su⟩) ⟨ku, iu, bu, su⟩ wr.heap.size 1 rfl rfl (t := 52) (fr := (0, 0)) (heap_alloc_new wr _) (HOQ.out.alloc _) hlq (Below.size (hbi.alloc hbi.size _)) ?_; intro u6 wA hA hgA hatA; have hbA := (hbi.alloc hbi.size _).grown hgA (Below.size (hbi.alloc hbi.size _)) (own_base HOQ.out); have h4 : At4 wA g9 0 ⟨ku, iu, bu, su⟩ := (At4.alloc ⟨i0, i1, i2, i3⟩ hgi _).grown hgA (fun e => HNQ.out e.symm); have hneA : u6.ownBlock ≠ some g9 := (fun e => by rcases hatA with h | h; exact HNQ.out (h.symm.trans e); rw [h] at e; injection e with e; simp at e; omega); have hgA9 : g9 < wA.heap.size := Nat.lt_of_lt_of_le hgi (Nat.le_trans (by simp) hgA.size); have HA := Lib.hid hA; have HNA := Lib.hid hneA; have H4 := Lib.hid h4; clear hA hgA hatA hneA h4 i0 i1 i2 i3)
                    go_roundw
                    case rel => exact ⟨q + 1, by omega, by go_num, by rw [List.replicate_succ', ← List.append_assoc]; exact HA.out, HNA.out, H4.out, hgA9, hbA⟩
                    case measure => simp [intOf]; omega
                  · have hqe : ¬ (q : Int) < x := by omega
                    go_wp2
                    go_roundw
                    case rel => exact ⟨(k' + 1) + 1, by omega, by go_num, _, HG.out, by rw [← show q = x.toNat by omega]; exact HOQ.out, hbi⟩
                    case measure => simp [intOf]; omega
      · have he : k = vs.length := by rw [hv.1]; omega
        subst he
        have hE := join_good (join_end HLL.out hJ)
        have HE := Lib.hid hE; clear hE
        have HO := Lib.hid hO; clear hO hx hv HLL hJ
        go_wp2
        go_ret2
        exact ⟨_, ret_vi HE.out.2.symm, by rw [HE.out.1]; exact HO.out, hb⟩
  · have hne : ((n : Int) != (m : Int)) = true := by simp; omega
    have hj := join_bad (join_unlike (many := xs) (vs := vs) (by rw [hx.1, hv.1]; exact hnm))
    have HJ := Lib.hid hj; clear hj
    go_enter Try.func62, Try.ntmps62
    go_wp2
    go_ret2
    exact ⟨_, ret_vi HJ.out.2.symm, by rw [HJ.out.1]; exact OwnV.nil _ _, Below.refl _ _⟩
end Go.Proofs.Ytkkpcdpoldjmkaa.Runs
