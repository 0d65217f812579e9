/-
  THE WALK of the document's own Join.
-/
import Derived.Test.YtkkpcdpoldjmkaaJoin
namespace Go.Proofs.Ytkkpcdpoldjmkaa.Runs
open Go.RowKit ValMath Vals Sl


set_option maxRecDepth 20000 in
set_option maxHeartbeats 2000000 in
theorem joinR_any (A C : Option Addr) (n m c d : Nat) (xs : List Int) (vs : List Val) (w : World) (hx : ISl w A n xs) (hv : VSl w C m vs) (hn : n ≤ 140737488351232) (hm : m ≤ 140737488351232) (hs : ∀ v ∈ vs, v.s.size ≤ maxLen) :
    Calls Try.prog 63 #[.slice A n c, .slice C m d] w fun e w' => ∃ u, e = .returned (.tuple #[u, .int .i64 (joinCode xs vs)]) ∧ OwnV w' w.heap.size u (joinVals xs vs) ∧ Below w.heap.size w w' := by
  by_cases hnm : n = m
  · subst hnm
    have hll : xs.length = vs.length := hx.1.trans hv.1.symm
    have HLL := Lib.hid hll; clear hll
    go_enter Try.func63, Try.ntmps63
    go_wp2
    go_loopw [6, 7] (fun v6 i wr => ∃ k : Nat, k ≤ n ∧ i = .int .i64 k ∧ ∃ out, joinK xs vs k = some out ∧ OwnV wr w.heap.size v6 out ∧ Below w.heap.size w wr)
      (fun _ i _ => n - (intOf i).toNat)
    case atStart => exact ⟨0, Nat.zero_le _, rfl, [], rfl, OwnV.nil _ _, Below.refl _ _⟩
    case round =>
      obtain ⟨k, hk, rfl, out, hJ, hO, hb⟩ := hrel
      obtain ⟨A6, c6, rfl⟩ := own_form_v hO
      have hol := joinK_len hJ
      by_cases hlt : k < n
      · obtain ⟨b1, o1, x, hx1, rfl, hb1, a0⟩ := hx.at_ hlt
        obtain ⟨b2, o2, v, hv1, rfl, hb2, c0, c1, c2, c3⟩ := hv.at_ hlt
        have hbc := (bcell hb).1
        have hsz := hb.size
        have hxd : xs.getD k 0 = x := by rw [List.getD_eq_getElem?_getD, hx1]; rfl
        have hvd : vs.getD k nul = v := by rw [List.getD_eq_getElem?_getD, hv1]; rfl
        have hkl : k < vs.length := by rw [hv.1]; exact hlt
        have hpv : 0 < k → ∃ p, vs.getD (k - 1) nul = p ∧ p.s.size ≤ maxLen ∧ w.cell? ⟨b2, o2 + (k - 1) * 4, none⟩ = some (.int .i64 p.k) ∧ w.cell? ⟨b2, o2 + (k - 1) * 4 + 1, none⟩ = some (.int .i64 p.i) ∧ w.cell? ⟨b2, o2 + (k - 1) * 4 + 2, none⟩ = some (.bool p.b) ∧ w.cell? ⟨b2, o2 + (k - 1) * 4 + 3, none⟩ = some (.string p.s) := fun h0 => by
          obtain ⟨b3, o3, p, hp1, hA3, _, e0, e1, e2, e3⟩ := hv.at_ (k := k - 1) (by omega)
          injection hA3 with hA3; injection hA3 with h1 h2; subst h1; subst h2
          exact ⟨p, by rw [List.getD_eq_getElem?_getD, hp1]; rfl, hs p (List.mem_of_getElem? hp1), e0, e1, e2, e3⟩
        have hvs := hs v (List.mem_of_getElem? hv1)
        have hG : ¬ joinBad xs vs k out.length → joinK xs vs (k + 1) = some (out ++ List.replicate x.toNat (clean v)) := fun hb => by rw [joinK_good hJ hb, hxd, hvd]
        have hBd : joinBad xs vs k out.length → joinVals xs vs = [] ∧ joinCode xs vs = 700 := fun hb => join_bad (join_stop HLL.out hJ hb hkl)
        have hbd : joinBad xs vs k out.length ↔ (x < 1 ∨ 4096 - (out.length : Int) < x ∨ (0 < k ∧ clean (vs.getD (k - 1) nul) = clean v)) := by unfold joinBad; rw [hxd, hvd]
        rw [hbd] at hG hBd
        have hcl := clean_any v
        have hcm := fun (p : Val) (w : World) (hp : p.s.size ≤ maxLen) => cmp_any p v w hp hvs
        have hcz := fun p : Val => cmp_zero p v
        generalize hu : clean v = u at hcl hG hBd hcz
        have HH := Lib.hid (And.intro hG (And.intro hBd (And.intro hpv (And.intro hcz (And.intro hx1 (And.intro hv1 (And.intro hxd (And.intro hvd (And.intro hJ (And.intro hbd (And.intro hx (And.intro hv (And.intro hu hcm))))))))))))); clear hG hBd hpv hcz hx1 hv1 hxd hvd hJ hbd hx hv hu hcm
        generalize hvv : v = v' at c0 c1 c2 c3 hcl
        obtain ⟨kv, iv, bv, sv⟩ := v'
        obtain ⟨ku, iu, bu, su⟩ := u
        simp only [] at c0 c1 c2 c3 hcl
        have HVV := Lib.hid hvv; clear hvv
        have HCL := Lib.hid hcl; clear hcl
        have HO0 := Lib.hid hO; clear hO
        have hw0 : IntKind.i64.wrap (4096 - (out.length : Int)) = 4096 - (out.length : Int) := IntWalk.i64_in _ (by omega)
        have hw4 : (0 : Int) ≤ (k : Int) := by omega
        have hw5 : (k : Int) < (n : Int) := by omega
        go_upto_region 7 with fail
        by_cases x1 : x < 1
        · have hB := HH.out.2.1 (.inl x1)
          have HB := Lib.hid hB; clear hB
          have hd : decide (x < 1) = true := decide_eq_true x1
          go_quiet (fail)
          have hbz := below_drewN hb nq
          go_wp2
          go_ret2
          exact ⟨_, ret_vi HB.out.2.symm, by rw [HB.out.1]; exact OwnV.nil _ _, hbz⟩
        · have hd : decide (x < 1) = false := decide_eq_false x1
          by_cases x2 : 4096 - (out.length : Int) < x
          · have hB := HH.out.2.1 (.inr (.inl x2))
            have HB := Lib.hid hB; clear hB
            have hd2 : decide (4096 - (out.length : Int) < x) = true := decide_eq_true x2
            go_quiet (fail)
            have hbz := below_drewN hb nq
            go_wp2
            go_ret2
            exact ⟨_, ret_vi HB.out.2.symm, by rw [HB.out.1]; exact OwnV.nil _ _, hbz⟩
          · have hd2 : decide (4096 - (out.length : Int) < x) = false := decide_eq_false x2
            rcases Nat.eq_zero_or_pos k with hk0 | hk0
            · have hG := HH.out.1 (by omega)
              have HG := Lib.hid hG; clear hG
              have hd3 : decide ((0 : Int) < (k : Int)) = false := by simp [hk0]
              have hd4 : decide (0 < k) = false := by simp [hk0]
              clear hk0
              go_quiet (fail)
              have hbz := below_drewN hb nq
              have HO := Lib.hid (HO0.out.drewN nq); clear HO0 hb hbc hsz
              generalize wr.drewN nq = wz at *
              have hbc := (bcell hbz).1
              have hsz := hbz.size
              go_wp2
              obtain ⟨wo, rfl⟩ : ∃ wo : World, wo = wz := ⟨_, rfl⟩
              go_loopw [6, 8] (fun v6 j wi => ∃ q : Nat, q ≤ x.toNat ∧ j = .int .i64 q ∧ OwnV wi w.heap.size v6 (out ++ List.replicate q ⟨ku, iu, bu, su⟩) ∧ Below w.heap.size w wi)
                (fun _ j _ => x.toNat - (intOf j).toNat)
              case atStart => exact ⟨0, Nat.zero_le _, rfl, by rw [List.replicate_zero, List.append_nil]; exact HO.out, hbz⟩
              case round =>
                obtain ⟨q, hq, rfl, hOq, hbi⟩ := hrel
                obtain ⟨Aq, cq, rfl⟩ := own_form_v hOq
                have hrl : (out ++ List.replicate q (⟨ku, iu, bu, su⟩ : Val)).length = out.length + q := by simp
                rw [hrl] at hOq ⊢
                have hlq : (out ++ List.replicate q (⟨ku, iu, bu, su⟩ : Val)).length < few := by rw [hrl]; unfold few; omega
                have HOQ := Lib.hid hOq; clear hOq
                have HRL := Lib.hid hrl; clear hrl
                have hszi := hbi.size
                have hbci := (bcell hbi).1
                clear hbc
                by_cases hql : q < x.toNat
                · have hqx : (q : Int) < x := by omega
                  have hdq : decide ((q : Int) < x) = true := decide_eq_true hqx
                  go_wp2_with (first
                    | (go_at_call 71; with_reducible refine (HCL.out _).mono ?_; rintro e w3 ⟨rfl, hb3⟩; have hbB := bthen hbi hb3 (Nat.le_refl _); have HO3 := Lib.hid (HOQ.out.below hb3); clear hbci)
                    | (refine wpList_push_val rfl _ _ rfl w.heap.size _ (out ++ List.replicate q ⟨ku, iu, bu, su⟩) ⟨ku, iu, bu, su⟩ w3.heap.size 1 rfl rfl (t := 52) (fr := (0, 0)) (heap_alloc_new w3 _) (HO3.out.alloc _) hlq (Below.size (hbB.alloc hbB.size _)) ?_; intro u6 wA hA hgA hatA; have hbA := (hbB.alloc hbB.size _).grown hgA (Below.size (hbB.alloc hbB.size _)) (own_base HO3.out); have HA := Lib.hid hA; clear hA hgA hatA))
                  go_roundw
                  case rel => exact ⟨q + 1, by omega, by go_num, by rw [List.replicate_succ', ← List.append_assoc]; exact HA.out, hbA⟩
                  case measure => simp [intOf]; omega
                · have hqe : ¬ (q : Int) < x := by omega
                  have hdq : decide ((q : Int) < x) = false := decide_eq_false hqe
                  go_wp2
                  go_roundw
                  case rel => exact ⟨k + 1, by omega, by go_num, _, HG.out, by rw [← show q = x.toNat by omega]; exact HOQ.out, hbi⟩
                  case measure => simp [intOf]; omega
            · obtain ⟨p, hpd, hps, e0, e1, e2, e3⟩ := HH.out.2.2.1 hk0
              have hK := fun w => HH.out.2.2.2.2.2.2.2.2.2.2.2.2.2 p w hps
              have hcz := HH.out.2.2.2.1 p
              have hbad : clean p = ⟨ku, iu, bu, su⟩ → joinVals xs vs = [] ∧ joinCode xs vs = 700 := fun e => HH.out.2.1 (.inr (.inr ⟨hk0, by rw [hpd]; exact e⟩))
              have hgood : clean p ≠ ⟨ku, iu, bu, su⟩ → joinK xs vs (k + 1) = some (out ++ List.replicate x.toNat ⟨ku, iu, bu, su⟩) := fun e => HH.out.1 (by rw [hpd]; rintro (h | h | ⟨_, h⟩); exact x1 h; exact x2 h; exact e h)
              rw [← hcz] at hbad
              rw [ne_eq, ← hcz] at hgood
              clear HH hpd hcz
              rw [HVV.out] at hK hbad hgood
              generalize cmp p ⟨kv, iv, bv, sv⟩ = r at hK hbad hgood
              obtain ⟨kp, ip, bp, sp⟩ := p
              simp only [] at e0 e1 e2 e3 hK
              have HK := Lib.hid hK; clear hK hps
              obtain ⟨k', rfl⟩ : ∃ k', k = k' + 1 := ⟨k - 1, by omega⟩
              rw [Nat.add_sub_cancel] at e0 e1 e2 e3
              have hd3 : decide ((0 : Int) < ((k' + 1 : Nat) : Int)) = true := decide_eq_true (by omega)
              have hd4 : decide (0 < k' + 1) = true := decide_eq_true (by omega)
              have hw6 : IntKind.i64.wrap (k' : Int) = (k' : Int) := IntWalk.i64_in _ (by omega)
              have hw2 : (0 : Int) ≤ (k' : Int) := by omega
              have hw3 : (k' : Int) < (n : Int) := by omega
              have hw7 : (0 : Int) ≤ (k' : Int) + 1 := by omega
              have hw8 : (k' : Int) + 1 < (n : Int) := by omega
              have hp4 : At4 wr b2 (o2 + k' * 4) ⟨kp, ip, bp, sp⟩ := At4.below ⟨e0, e1, e2, e3⟩ hb hb2
              have hv4 : At4 wr b2 (o2 + (k' + 1) * 4) ⟨kv, iv, bv, sv⟩ := At4.below ⟨c0, c1, c2, c3⟩ hb hb2
              have ha0 : wr.cell? ⟨b1, o1 + (k' + 1), none⟩ = some (.int .i64 x) := (hb.cell (p := ⟨b1, o1 + (k' + 1), none⟩) hb1).trans a0
              have HP4 := Lib.hid (And.intro ha0 (And.intro hp4 hv4)); clear hp4 hv4 ha0
              have hb2' : b2 < wr.heap.size := Nat.lt_of_lt_of_le hb2 hsz
              have hb1' : b1 < wr.heap.size := Nat.lt_of_lt_of_le hb1 hsz
              by_cases hee : r = 0
              · have hB := hbad hee
                have HB := Lib.hid hB
                have hq : (r == 0) = true := by simpa using hee
                clear hB hbad hgood
                subst hee
                go_region_held3 (fun w' => w'.cell? ⟨b1, o1 + (k' + 1), none⟩ = some (.int .i64 x) ∧ (w'.cell? ⟨b2, o2 + k' * 4, none⟩ = some (.int .i64 kp) ∧ w'.cell? ⟨b2, o2 + k' * 4 + 1, none⟩ = some (.int .i64 ip) ∧ w'.cell? ⟨b2, o2 + k' * 4 + 2, none⟩ = some (.bool bp) ∧ w'.cell? ⟨b2, o2 + k' * 4 + 3, none⟩ = some (.string sp)) ∧
                    (w'.cell? ⟨b2, o2 + (k' + 1) * 4, none⟩ = some (.int .i64 kv) ∧ w'.cell? ⟨b2, o2 + (k' + 1) * 4 + 1, none⟩ = some (.int .i64 iv) ∧ w'.cell? ⟨b2, o2 + (k' + 1) * 4 + 2, none⟩ = some (.bool bv) ∧ w'.cell? ⟨b2, o2 + (k' + 1) * 4 + 3, none⟩ = some (.string sv)))
                  (first | go_keep | exact ⟨(hbK.cell (p := ⟨b1, o1 + (k' + 1), none⟩) hb1').trans HP4.out.1, HP4.out.2.1.drew.below hbK hb2', HP4.out.2.2.drew.below hbK hb2'⟩)
                  ((first | (go_at_call 72; with_reducible refine (HK.out _).mono ?_; rintro e w2 ⟨rfl, hbK⟩)))
                have hbz := bthen hb.drew hbK (Nat.le_refl _)
                go_wp2
                go_ret2
                exact ⟨_, ret_vi HB.out.2.symm, by rw [HB.out.1]; exact OwnV.nil _ _, hbz⟩
              · have hG := hgood hee
                have HG := Lib.hid hG
                have hq : (r == 0) = false := by simpa using hee
                clear hG hbad hgood hee
                go_region_held3 (fun w' => w'.cell? ⟨b1, o1 + (k' + 1), none⟩ = some (.int .i64 x) ∧ (w'.cell? ⟨b2, o2 + k' * 4, none⟩ = some (.int .i64 kp) ∧ w'.cell? ⟨b2, o2 + k' * 4 + 1, none⟩ = some (.int .i64 ip) ∧ w'.cell? ⟨b2, o2 + k' * 4 + 2, none⟩ = some (.bool bp) ∧ w'.cell? ⟨b2, o2 + k' * 4 + 3, none⟩ = some (.string sp)) ∧
                    (w'.cell? ⟨b2, o2 + (k' + 1) * 4, none⟩ = some (.int .i64 kv) ∧ w'.cell? ⟨b2, o2 + (k' + 1) * 4 + 1, none⟩ = some (.int .i64 iv) ∧ w'.cell? ⟨b2, o2 + (k' + 1) * 4 + 2, none⟩ = some (.bool bv) ∧ w'.cell? ⟨b2, o2 + (k' + 1) * 4 + 3, none⟩ = some (.string sv)))
                  (first | go_keep | exact ⟨(hbK.cell (p := ⟨b1, o1 + (k' + 1), none⟩) hb1').trans HP4.out.1, HP4.out.2.1.drew.below hbK hb2', HP4.out.2.2.drew.below hbK hb2'⟩)
                  ((first | (go_at_call 72; with_reducible refine (HK.out _).mono ?_; rintro e wz ⟨rfl, hbK⟩)))
                have hbz := bthen hb.drew hbK (Nat.le_refl _)
                have HO := Lib.hid (HO0.out.drew.below hbK); clear HO0
                clear hbK HP4 hbc hsz hb
                have hbc := (bcell hbz).1
                have hsz := hbz.size
                go_wp2
                obtain ⟨wo, rfl⟩ : ∃ wo : World, wo = wz := ⟨_, rfl⟩
                go_loopw [6, 8] (fun v6 j wi => ∃ q : Nat, q ≤ x.toNat ∧ j = .int .i64 q ∧ OwnV wi w.heap.size v6 (out ++ List.replicate q ⟨ku, iu, bu, su⟩) ∧ Below w.heap.size w wi)
                  (fun _ j _ => x.toNat - (intOf j).toNat)
                case atStart => exact ⟨0, Nat.zero_le _, rfl, by rw [List.replicate_zero, List.append_nil]; exact HO.out, hbz⟩
                case round =>
                  obtain ⟨q, hq, rfl, hOq, hbi⟩ := hrel
                  obtain ⟨Aq, cq, rfl⟩ := own_form_v hOq
                  have hrl : (out ++ List.replicate q (⟨ku, iu, bu, su⟩ : Val)).length = out.length + q := by simp
                  rw [hrl] at hOq ⊢
                  have hlq : (out ++ List.replicate q (⟨ku, iu, bu, su⟩ : Val)).length < few := by rw [hrl]; unfold few; omega
                  have HOQ := Lib.hid hOq; clear hOq
                  have HRL := Lib.hid hrl; clear hrl
                  have hszi := hbi.size
                  have hbci := (bcell hbi).1
                  clear hbc
                  by_cases hql : q < x.toNat
                  · have hqx : (q : Int) < x := by omega
                    have hdq : decide ((q : Int) < x) = true := decide_eq_true hqx
                    go_wp2_with (first
                      | (go_at_call 71; with_reducible refine (HCL.out _).mono ?_; rintro e w3 ⟨rfl, hb3⟩; have hbB := bthen hbi hb3 (Nat.le_refl _); have HO3 := Lib.hid (HOQ.out.below hb3); clear hbci)
                      | (refine wpList_push_val rfl _ _ rfl w.heap.size _ (out ++ List.replicate q ⟨ku, iu, bu, su⟩) ⟨ku, iu, bu, su⟩ w3.heap.size 1 rfl rfl (t := 52) (fr := (0, 0)) (heap_alloc_new w3 _) (HO3.out.alloc _) hlq (Below.size (hbB.alloc hbB.size _)) ?_; intro u6 wA hA hgA hatA; have hbA := (hbB.alloc hbB.size _).grown hgA (Below.size (hbB.alloc hbB.size _)) (own_base HO3.out); have HA := Lib.hid hA; clear hA hgA hatA))
                    go_roundw
                    case rel => exact ⟨q + 1, by omega, by go_num, by rw [List.replicate_succ', ← List.append_assoc]; exact HA.out, hbA⟩
                    case measure => simp [intOf]; omega
                  · have hqe : ¬ (q : Int) < x := by omega
                    have hdq : decide ((q : Int) < x) = false := decide_eq_false hqe
                    go_wp2
                    go_roundw
                    case rel => exact ⟨(k' + 1) + 1, by omega, by go_num, _, HG.out, by rw [← show q = x.toNat by omega]; exact HOQ.out, hbi⟩
                    case measure => simp [intOf]; omega
      · have he : k = vs.length := by rw [hv.1]; omega
        subst he
        have hE := join_good (join_end HLL.out hJ)
        have HE := Lib.hid hE; clear hE
        have HO := Lib.hid hO; clear hO hx hv HLL hJ
        go_wp2
        go_ret2
        exact ⟨_, ret_vi HE.out.2.symm, by rw [HE.out.1]; exact HO.out, hb⟩
  · have hne : ((n : Int) != (m : Int)) = true := by simp; omega
    have hj := join_bad (join_unlike (many := xs) (vs := vs) (by rw [hx.1, hv.1]; exact hnm))
    have HJ := Lib.hid hj; clear hj
    go_enter Try.func63, Try.ntmps63
    go_wp2
    go_ret2
    exact ⟨_, ret_vi HJ.out.2.symm, by rw [HJ.out.1]; exact OwnV.nil _ _, Below.refl _ _⟩
end Go.Proofs.Ytkkpcdpoldjmkaa.Runs
