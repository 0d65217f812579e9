/-
  Lemmas of this claim, text behind text: VecEncode. Each states its own conditions.
-/
import Derived.Test.YtgmemdedpklnhaaGreatPart06
import Derived.Test.YtgmemdedpklnhaaGreatPart07

/-
  THE WALK of vec.encode.
-/


namespace Go.Proofs.YtgmemdedpklnhaaGreat.Vec
open Go.RowKit ValMath Vals Sl VecMath Bld Words VecMap

theorem nulls_snoc {vs : List Val} {q : Nat} {v : Val} (h : vs[q]? = some v) : iat (nulls (vs.take (q + 1))) = iat (nulls (vs.take q)) ++ [((flag (isNull v) : Nat) : Int)] := by
  have e : nulls (vs.take (q + 1)) = nulls (vs.take q) ++ [flag (isNull v)] := by unfold nulls; rw [take_more h, List.map_append]; rfl
  rw [e, iat_snoc]
theorem somes_null {vs : List Val} {q : Nat} {v : Val} (h : vs[q]? = some v) (h2 : isNull v = true) : somes (vs.take (q + 1)) = somes (vs.take q) := by
  unfold somes; rw [take_more h, List.filter_append]; simp [h2]
theorem somes_more {vs : List Val} {q : Nat} {v : Val} (h : vs[q]? = some v) (h2 : isNull v = false) : somes (vs.take (q + 1)) = somes (vs.take q) ++ [clean v] := by
  unfold somes; rw [take_more h, List.filter_append]; simp [h2]
/-- The best of what has been looked at: l1, l2: is the one, the other still to come? -/
def after (p r s : List UInt8) (l1 l2 : Bool) : Nat × List UInt8 :=
  match l1, l2 with
  | true, true => (0, p)
  | false, true => if r.length < p.length then (1, r) else (0, p)
  | true, false => if s.length < p.length then (2, s) else (0, p)
  | false, false => best3 p r s
theorem after_one (p r s : List UInt8) (l2 : Bool) : after p r s false l2 = if r.length < (after p r s true l2).2.length ∨ (r.length = (after p r s true l2).2.length ∧ 1 < (after p r s true l2).1) then (1, r) else after p r s true l2 := by
  cases l2
  · simp only [after, best3]
    by_cases h1 : r.length < p.length
    · by_cases h2 : s.length < p.length
      · by_cases h3 : s.length < r.length
        · simp only [h1, h2, h3, if_true]; rw [if_neg (by omega)]
        · simp only [h1, h2, h3, if_true, if_false]; rw [if_pos (by omega)]
      · have h3 : ¬ s.length < r.length := by omega
        simp only [h1, h2, h3, if_true, if_false]; simp
    · by_cases h2 : s.length < p.length
      · simp only [h1, h2, if_true, if_false]; rw [if_neg (by omega)]
      · simp only [h1, h2, if_false]; simp
  · simp only [after]; simp
theorem after_two (p r s : List UInt8) (l1 : Bool) : after p r s l1 false = if s.length < (after p r s l1 true).2.length ∨ (s.length = (after p r s l1 true).2.length ∧ 2 < (after p r s l1 true).1) then (2, s) else after p r s l1 true := by
  cases l1
  · simp only [after, best3]
    by_cases h1 : r.length < p.length
    · simp only [h1, if_true]; simp
    · simp only [h1, if_false]; simp
  · simp only [after]; simp
theorem after_le (p r s : List UInt8) (l1 l2 : Bool) : (after p r s l1 l2).1 ≤ 2 ∧ ((after p r s l1 l2).2 = p ∨ (after p r s l1 l2).2 = r ∨ (after p r s l1 l2).2 = s) := by
  cases l1 <;> cases l2 <;> simp only [after, best3] <;> (repeat' split) <;> simp

theorem own_kept_none {w w' : World} {B z n : Nat} {e : TypeId} {v : Value} {xs : List Value} (h : w.ownsRow B e z v n xs) (hg : w.grownBy w' none) : w'.ownsRow B e z v n xs :=
  World.ownsRow.kept h hg (by cases hv : v.ownBlock with | none => exact .inl rfl | some k => exact .inr (by simp))
theorem plain_len (k : Int) (vs : List Val) (hn : vs.length ≤ 4096) (h : ∀ v ∈ vs, v.s.size ≤ 64) : (encPlain k vs).length ≤ 400000 := by
  by_cases h2 : k = 2
  · subst h2; rw [encPlain_two, packed_length, List.length_map]; omega
  · rw [encPlain_other vs h2]; have := flat_length vs h; omega
theorem encRuns_len (vs : List Val) (hn : vs.length ≤ 4096) (h : ∀ v ∈ vs, v.s.size ≤ 64) : (encRuns vs).length ≤ 400000 := by
  rw [encRuns_eq, List.length_append]
  have h1 := cnt_size (cut vs).length
  have h2 := cut_length vs
  have h3 := runs_len (cut vs) (fun p hp => by obtain ⟨u, hu, e⟩ := cut_mem vs p hp; rw [← e]; exact Nat.le_trans (clean_size u) (h u hu))
  omega
theorem encWords_len (vs : List Val) (hn : vs.length ≤ 4096) (h : ∀ v ∈ vs, v.s.size ≤ 64) : (encWords vs).length ≤ 400000 := by
  rw [encWords_eq, List.length_append, List.length_append, packed_length, build_at_length]
  have h1 := cnt_size (build vs).1.length
  have h2 := build_ws_length vs
  have h3 := flat_length (build vs).1 (fun u hu => by obtain ⟨x, hx, e⟩ := (build_ws_mem vs u).1 hu; rw [← e]; exact Nat.le_trans (clean_size x) (h x hx))
  have h4 := width_le (m := (build vs).1.length) (by omega)
  have h5 : vs.length * width ((build vs).1.length - 1) ≤ 4096 * 12 := Nat.mul_le_mul hn h4
  omega
theorem somes_mem {vs : List Val} {u : Val} (h : u ∈ somes vs) : ∃ v ∈ vs, clean v = u := by
  unfold somes at h
  simp only [List.mem_map, List.mem_filter] at h
  obtain ⟨v, ⟨hv, _⟩, e⟩ := h
  exact ⟨v, hv, e⟩

theorem run_str_one (W : World) (g c : Nat) (x : Int) (h : W.cell? ⟨g, 0, none⟩ = some (.int .u8 x)) : (convert 54 9 (.slice (some ⟨g, 0, none⟩) 1 c)).run Tryz.prog W = .ok (.string (strOfNums [x])) W := by
  refine run_convert_bytes_arg _ 54 5 Tryz.underlying54 Tryz.underlying5 g 0 1 c [x] rfl (fun i hi => ?_) 9 Tryz.underlying9
  obtain rfl : i = 0 := by omega
  exact h
theorem keep_new {V wC : World} {x : Int} (h : Below (V.alloc (.cells #[.int .u8 x] 5)).heap.size (V.alloc (.cells #[.int .u8 x] 5)) wC) : wC.cell? ⟨V.heap.size, 0, none⟩ = some (.int .u8 x) := by
  rw [h.cell (p := ⟨V.heap.size, 0, none⟩) (by simp), World.cell?_alloc_at _ _ _ _ rfl]; rfl
theorem keep_cell {w w' : World} {g : Nat} {v : Value} (hb : Below w.heap.size w w') (h : w.cell? ⟨g, 0, none⟩ = some v) : w'.cell? ⟨g, 0, none⟩ = some v := by
  have hg : g < w.heap.size := by
    rcases Nat.lt_or_ge g w.heap.size with h2 | h2
    · exact h2
    · simp [World.cell?, Array.getElem?_eq_none h2] at h
  exact (hb.cell (p := ⟨g, 0, none⟩) hg).trans h
theorem ret_is {a b : Int} {s t : ByteArray} (h1 : a = b) (h2 : s = t) : Ending.returned (.tuple #[.int .i64 a, .string s]) = .returned (.tuple #[.int .i64 b, .string t]) := by rw [h1, h2]
theorem byte_str {n : Nat} (_h : n ≤ 2) : strOfNums [(n : Int)] = str [UInt8.ofNat n] := by
  rw [str_nums]; simp


set_option maxRecDepth 20000 in
set_option maxHeartbeats 8000000 in
theorem encode_any (k : Int) (A : Option Addr) (n c : Nat) (vs : List Val) (w : World) (hv : VSl w A n vs) (hn : n ≤ 4096) (hf : ∀ v ∈ vs, Fine v ∧ (clean v).s.size ≤ 64) :
    Calls Tryz.prog 58 #[.int .i64 k, .slice A n c] w fun e w' => e = .returned (.tuple #[.int .i64 ((best k vs).1 : Nat), .string (str (body k vs))]) ∧ Below w.heap.size w w' := by
  have hl := hv.1
  have HF := Lib.hid (And.intro hf hl); clear hf hl
  have hmm := @run_makeMap Tryz.prog
  go_enter Tryz.func58, Tryz.ntmps58
  go_wp2
  go_loopw [6, 7, 16] (fun tv sv iv wr => ∃ q : Nat, q ≤ n ∧ iv = .int .i64 q ∧ OwnI wr w.heap.size tv (iat (nulls (vs.take q))) ∧ OwnV wr w.heap.size sv (somes (vs.take q)) ∧ Below w.heap.size w wr) (fun _ _ iv _ => n - (intOf iv).toNat)
  case atStart => exact ⟨0, Nat.zero_le _, rfl, OwnI.nil _ _, OwnV.nil _ _, Below.refl _ _⟩
  case round =>
    obtain ⟨q, hq, rfl, hI, hV, hb⟩ := hrel
    have htl : (vs.take q).length = q := by rw [List.length_take, HF.out.2]; omega
    have hnl : (iat (nulls (vs.take q))).length = q := by rw [iat_length, nulls_length, htl]
    have hml := somes_length (vs.take q)
    rw [htl] at hml
    obtain ⟨A6, c6, rfl, _, _, _⟩ := hI.form (n := q) hnl
    obtain ⟨m, hm⟩ : ∃ m, (somes (vs.take q)).length = m := ⟨_, rfl⟩
    rw [hm] at hml
    obtain ⟨A7, c7, rfl, _, _⟩ := hV.form' (n := m) hm
    by_cases hlt : q < n
    · obtain ⟨b1, o1, v, hv1, rfl, hb1, c0, c1, c2, c3⟩ := (hv.below hb).at_ hlt
      have hns := nulls_snoc hv1
      have hs1 := somes_null hv1
      have hs2 := somes_more hv1
      have hp := Vals.plain_any v
      have hFl := fun w => flag_any (isNull v) w
      have hnu : isNull v = decide ((clean v).k = 0) := rfl
      have hflT : (iat (nulls (vs.take q))).length < few := by rw [hnl]; unfold few; omega
      have hflM : (somes (vs.take q)).length < few := by rw [hm]; unfold few; omega
      generalize iat (nulls (vs.take q)) = T at *
      generalize somes (vs.take q) = M at *
      generalize clean v = u at *
      generalize isNull v = B at *
      obtain ⟨f, hf⟩ : ∃ f, f = flag B := ⟨_, rfl⟩
      rw [← hf] at hns hFl
      have HN := Lib.hid (And.intro hns (And.intro hs1 (And.intro hs2 hm))); clear hns hs1 hs2 hv1 hnl hm
      have HFL := Lib.hid (And.intro hflT hflM); clear hflT hflM
      have HNU := Lib.hid hnu; clear hnu
      have hszr := hb.size
      have hnV : (Value.slice A7 m c7).ownBlock ≠ some wr.heap.size := own_lt hV (Nat.le_refl _)
      have hnI : (Value.slice A6 q c6).ownBlock ≠ some wr.heap.size := own_lt hI (Nat.le_refl _)
      have HI := Lib.hid hI; clear hI
      have HV := Lib.hid hV; clear hV
      obtain ⟨kv, iv, bv, sv⟩ := v
      obtain ⟨ku, iu, bu, su⟩ := u
      simp only [vagg] at c0 c1 c2 c3 hp
      have HPL := Lib.hid hp; clear hp
      by_cases hk : ku = 0
      · have hB : B = true := by rw [HNU.out]; exact decide_eq_true hk
        rw [hB] at hf hFl HN
        have hk1 : (ku == 0) = true := by simp [hk]
        have hk2 : (ku != 0) = false := by simp [hk]
        have HFl := Lib.hid hFl; clear hFl hf HNU hk hB
        go_wp2_with (first
          | (go_at_call 71; (with_reducible refine (HPL.out _).mono ?_); rintro e w1 ⟨rfl, hb2⟩; have HB1 := Lib.hid ((Box.new wr ⟨kv, iv, bv, sv⟩).below hb2); have HV1 := Lib.hid ((HV.out.alloc (.cells #[.int .i64 kv, .int .i64 iv, .bool bv, .string sv] 71)).below hb2); have HI1 := Lib.hid ((HI.out.alloc (.cells #[.int .i64 kv, .int .i64 iv, .bool bv, .string sv] 71)).below hb2); have HBT1 := Lib.hid (bthen (hb.alloc hb.size (.cells #[.int .i64 kv, .int .i64 iv, .bool bv, .string sv] 71)) hb2 (Nat.le_refl _)); clear hb2)
          | (refine wpList_store_val rfl (.tmp 9) (.tmp 21) rfl wr.heap.size ⟨ku, iu, bu, su⟩ ⟨kv, iv, bv, sv⟩ rfl rfl HB1.out ?_; intro wq hBq hgq hsq; have HBq := Lib.hid hBq; have HVq := Lib.hid (HV1.out.keepB hgq hnV); have HIq := Lib.hid (HI1.out.keepB hgq hnI); have HBTq := Lib.hid (HBT1.out.grown hgq HBT1.out.size (fun j hj => by simp at hj; omega)); clear hgq hBq hsq; have hszq := HBTq.out.size; obtain ⟨y0, y1, y2, y3⟩ := HBq.out.cells; (try simp only [] at y0 y1 y2 y3))
          | (go_at_call 84; with_reducible refine (HFl.out _).mono ?_; rintro e w2 ⟨rfl, rfl⟩)
          | (at_builtin; (refine wpList_push_int (t := 3) (fr := (0, 0)) rfl (.tmp 22) (.tmp 27) rfl w.heap.size (.slice A6 q c6) T (f : Int) wq.heap.size 1 rfl rfl (heap_alloc_new wq (.cells #[.int .i64 (f : Int)] 3)) (HIq.out.alloc (.cells #[.int .i64 (f : Int)] 3)) HFL.out.1 (Below.size (HBTq.out.alloc HBTq.out.size (.cells #[.int .i64 (f : Int)] 3))) ?_; intro u2 wB hI2 hgB hatB); have HI3 := Lib.hid hI2; have HV3 := Lib.hid ((HVq.out.alloc (.cells #[.int .i64 (f : Int)] 3)).keepI (HIq.out.alloc (.cells #[.int .i64 (f : Int)] 3)) hgB); have HBx3 := Lib.hid ((HBq.out.alloc (.cells #[.int .i64 (f : Int)] 3)).grown hgB (fun e2 => hnI e2.symm)); have HBT3 := Lib.hid ((HBTq.out.alloc HBTq.out.size (.cells #[.int .i64 (f : Int)] 3)).grown hgB (Below.size (HBTq.out.alloc HBTq.out.size (.cells #[.int .i64 (f : Int)] 3))) (own_base HIq.out)); clear hI2 hgB hatB y0 y1 y2 y3; obtain ⟨z0, z1, z2, z3⟩ := HBx3.out.cells; (try simp only [] at z0 z1 z2 z3)))
        go_roundw
        case rel => exact ⟨q + 1, by omega, by go_num, by rw [HN.out.1]; exact HI3.out, by rw [HN.out.2.1 (by trivial)]; exact HV3.out, HBT3.out⟩
        case measure => simp [intOf]; omega
      · have hB : B = false := by rw [HNU.out]; exact decide_eq_false hk
        rw [hB] at hf hFl HN
        have hk1 : (ku == 0) = false := by simpa using hk
        have hk2 : (ku != 0) = true := by simpa using hk
        have HFl := Lib.hid hFl; clear hFl hf HNU hk hB
        go_wp2_with (first
          | (go_at_call 71; (with_reducible refine (HPL.out _).mono ?_); rintro e w1 ⟨rfl, hb2⟩; have HB1 := Lib.hid ((Box.new wr ⟨kv, iv, bv, sv⟩).below hb2); have HV1 := Lib.hid ((HV.out.alloc (.cells #[.int .i64 kv, .int .i64 iv, .bool bv, .string sv] 71)).below hb2); have HI1 := Lib.hid ((HI.out.alloc (.cells #[.int .i64 kv, .int .i64 iv, .bool bv, .string sv] 71)).below hb2); have HBT1 := Lib.hid (bthen (hb.alloc hb.size (.cells #[.int .i64 kv, .int .i64 iv, .bool bv, .string sv] 71)) hb2 (Nat.le_refl _)); clear hb2)
          | (refine wpList_store_val rfl (.tmp 9) (.tmp 21) rfl wr.heap.size ⟨ku, iu, bu, su⟩ ⟨kv, iv, bv, sv⟩ rfl rfl HB1.out ?_; intro wq hBq hgq hsq; have HBq := Lib.hid hBq; have HVq := Lib.hid (HV1.out.keepB hgq hnV); have HIq := Lib.hid (HI1.out.keepB hgq hnI); have HBTq := Lib.hid (HBT1.out.grown hgq HBT1.out.size (fun j hj => by simp at hj; omega)); clear hgq hBq hsq; have hszq := HBTq.out.size; obtain ⟨y0, y1, y2, y3⟩ := HBq.out.cells; (try simp only [] at y0 y1 y2 y3))
          | (go_at_call 84; with_reducible refine (HFl.out _).mono ?_; rintro e w2 ⟨rfl, rfl⟩)
          | (at_builtin; (refine wpList_push_int (t := 3) (fr := (0, 0)) rfl (.tmp 22) (.tmp 27) rfl w.heap.size (.slice A6 q c6) T (f : Int) wq.heap.size 1 rfl rfl (heap_alloc_new wq (.cells #[.int .i64 (f : Int)] 3)) (HIq.out.alloc (.cells #[.int .i64 (f : Int)] 3)) HFL.out.1 (Below.size (HBTq.out.alloc HBTq.out.size (.cells #[.int .i64 (f : Int)] 3))) ?_; intro u2 wB hI2 hgB hatB); have HI3 := Lib.hid hI2; have HV3 := Lib.hid ((HVq.out.alloc (.cells #[.int .i64 (f : Int)] 3)).keepI (HIq.out.alloc (.cells #[.int .i64 (f : Int)] 3)) hgB); have HBx3 := Lib.hid ((HBq.out.alloc (.cells #[.int .i64 (f : Int)] 3)).grown hgB (fun e2 => hnI e2.symm)); have HBT3 := Lib.hid ((HBTq.out.alloc HBTq.out.size (.cells #[.int .i64 (f : Int)] 3)).grown hgB (Below.size (HBTq.out.alloc HBTq.out.size (.cells #[.int .i64 (f : Int)] 3))) (own_base HIq.out)); clear hI2 hgB hatB y0 y1 y2 y3; obtain ⟨z0, z1, z2, z3⟩ := HBx3.out.cells; (try simp only [] at z0 z1 z2 z3))
          | (at_builtin; (refine wpList_push_val rfl (.tmp 32) (.tmp 34) rfl w.heap.size (.slice A7 m c7) M ⟨ku, iu, bu, su⟩ wB.heap.size 1 rfl rfl (t := 71) (fr := (0, 0)) (heap_alloc_new wB (.cells #[.int .i64 ku, .int .i64 iu, .bool bu, .string su] 71)) (HV3.out.alloc (.cells #[.int .i64 ku, .int .i64 iu, .bool bu, .string su] 71)) HFL.out.2 (Below.size (HBT3.out.alloc HBT3.out.size (.cells #[.int .i64 ku, .int .i64 iu, .bool bu, .string su] 71))) ?_; intro u3 wC hV4 hgC hatC); have HV4 := Lib.hid hV4; have HI4 := Lib.hid ((HI3.out.alloc (.cells #[.int .i64 ku, .int .i64 iu, .bool bu, .string su] 71)).keepV (HV3.out.alloc (.cells #[.int .i64 ku, .int .i64 iu, .bool bu, .string su] 71)) hgC); have HBT4 := Lib.hid ((HBT3.out.alloc HBT3.out.size (.cells #[.int .i64 ku, .int .i64 iu, .bool bu, .string su] 71)).grown hgC (Below.size (HBT3.out.alloc HBT3.out.size (.cells #[.int .i64 ku, .int .i64 iu, .bool bu, .string su] 71))) (own_base HV3.out)); clear hV4 hgC hatC))
        go_roundw
        case rel => exact ⟨q + 1, by omega, by go_num, by rw [HN.out.1]; exact HI4.out, by rw [HN.out.2.2.1 (by trivial)]; exact HV4.out, HBT4.out⟩
        case measure => simp [intOf]; omega
    · obtain rfl : q = n := by omega
      have htk : vs.take q = vs := List.take_of_length_le (by rw [HF.out.2]; exact Nat.le_refl _)
      rw [htk] at hI hV hm hnl
      have hfs : ∀ u ∈ somes vs, Fine u ∧ u.s.size ≤ 64 := fun u hu => by
        obtain ⟨v, hv2, e⟩ := somes_mem hu
        have h2 := HF.out.1 v hv2
        rw [← e]; exact ⟨fine_clean h2.1, h2.2⟩
      have hm4 : m ≤ 4096 := by omega
      have hzP := plain_len k (somes vs) (by omega) (fun u hu => (hfs u hu).2)
      have hzR := encRuns_len (somes vs) (by omega) (fun u hu => (hfs u hu).2)
      have hzS := encWords_len (somes vs) (by omega) (fun u hu => (hfs u hu).2)
      have hcP := fun w (h : VSl w A7 m (somes vs)) => plain_any k A7 m c7 (somes vs) w h hm4 hfs
      have hcR := fun w (h : VSl w A7 m (somes vs)) => repeated_any A7 m c7 (somes vs) w h hm4 hfs
      have hcS := fun w (h : VSl w A7 m (somes vs)) => placed_any A7 m c7 (somes vs) w h hm4 hfs
      have hbest : best k vs = after (encPlain k (somes vs)) (encRuns (somes vs)) (encWords (somes vs)) false false := rfl
      generalize encPlain k (somes vs) = P at *
      generalize encRuns (somes vs) = R at *
      generalize encWords (somes vs) = S at *
      have hmx1 : (str R).size ≤ maxLen := by rw [str_size]; unfold maxLen; omega
      have hmx2 : (str S).size ≤ maxLen := by rw [str_size]; unfold maxLen; omega
      have HZ := Lib.hid (And.intro hzP (And.intro hzR (And.intro hzS (And.intro hm (And.intro hnl hbest))))); clear hzP hzR hzS hm hnl hbest
      have HMX := Lib.hid (And.intro hmx1 hmx2); clear hmx1 hmx2
      have HC := Lib.hid (And.intro hcP (And.intro hcR hcS)); clear hcP hcR hcS hfs
      have HI := Lib.hid hI; clear hI
      have HV := Lib.hid hV; clear hV
      have hszr := hb.size
      go_wp2_with (first
        | (go_at_call 85; (with_reducible refine (HC.out.1 _ (HV.out.sl HZ.out.2.2.2.1)).mono ?_); rintro e w1 ⟨rfl, hb1⟩; have HI1 := Lib.hid ((HI.out.below hb1).alloc (.map #[] 0)); have HV1 := Lib.hid ((HV.out.below hb1).alloc (.map #[] 0)); have hnI1 : (Value.slice A6 q c6).ownBlock ≠ some w1.heap.size := own_lt (HI.out.below hb1) (Nat.le_refl _); have hnV1 : (Value.slice A7 m c7).ownBlock ≠ some w1.heap.size := own_lt (HV.out.below hb1) (Nat.le_refl _); have hbt1 := bthen hb hb1 (Nat.le_refl _); have HBT1 := Lib.hid (hbt1.alloc hbt1.size (.map #[] 0)); have HM1 := Lib.hid (MapS.made w1); have hsz1 := hbt1.size; clear hb1 hbt1)
        | (go_at_call 86; (with_reducible refine (HC.out.2.1 _ (HV1.out.sl HZ.out.2.2.2.1)).mono ?_); rintro e w2 ⟨rfl, hb2⟩; have HI2 := Lib.hid (HI1.out.below hb2); have HV2 := Lib.hid (HV1.out.below hb2); have HBT2 := Lib.hid (bthen HBT1.out hb2 (Nat.le_refl _)); have HM2 := Lib.hid (HM1.out.below hb2); clear hb2)
        | (go_at_call 87; (with_reducible refine (HC.out.2.2 _ (HV3.out.sl HZ.out.2.2.2.1)).mono ?_); rintro e w4 ⟨rfl, hb4⟩; have HI4 := Lib.hid (HI3.out.below hb4); have HBT4 := Lib.hid (bthen HBT3.out hb4 (Nat.le_refl _)); have HM4 := Lib.hid (HM3.out.below hb4); clear hb4)
        | (at_range; (refine wpList_range_two rfl (.tmp 45) rfl w1.heap.size (str R) (str S) rfl HM5.out ?_); intro w6 cnt6 hrg6 hg6 hs6; have HI6 := Lib.hid (own_kept_none HI5.out hg6); have HBT6 := Lib.hid (HBT5.out.grown hg6 HBT5.out.size (fun j hj => by cases hj)); have HRG6 := Lib.hid hrg6; clear hrg6 hg6 hs6)
        | (refine wpList_insert_str rfl (.tmp 40) (.const (.int .i64 1)) (.tmp 42) rfl w1.heap.size 0 _ rfl HM2.out (by unfold maxLen; omega) 1 rfl (by decide) (str R) rfl HMX.out.1 ?_; intro w3 hm3 hg3; have HM3 := Lib.hid hm3; have HI3 := Lib.hid (HI2.out.keepB hg3 hnI1); have HV3 := Lib.hid (HV2.out.keepB hg3 hnV1); have HBT3 := Lib.hid (HBT2.out.grown hg3 HBT2.out.size (fun j hj => by simp at hj; omega)); clear hm3 hg3)
        | (refine wpList_insert_str rfl (.tmp 40) (.const (.int .i64 2)) (.tmp 44) rfl w1.heap.size 1 _ rfl HM4.out (by unfold maxLen; omega) 2 rfl (by decide) (str S) rfl HMX.out.2 ?_; intro w5 hm5 hg5; have HM5 := Lib.hid hm5; have HI5 := Lib.hid (HI4.out.keepB hg5 hnI1); have HBT5 := Lib.hid (HBT4.out.grown hg5 HBT4.out.size (fun j hj => by simp at hj; omega)); have hnI5 : (Value.slice A6 q c6).ownBlock ≠ some w5.heap.size := own_lt HI5.out (Nat.le_refl _); have hsz5 := HBT5.out.size; clear hm5 hg5))
      go_frame
      obtain ⟨wo, hwo⟩ : ∃ wo : World, wo = wr := ⟨_, rfl⟩
      clear HI HV hb
      go_loopw [10, 11] (fun bv av wr => ∃ l1 l2 cnt, Rng wr w1.heap.size w5.heap.size (str R) (str S) l1 l2 cnt ∧ bv = .string (str (after P R S l1 l2).2) ∧ av = .int .i64 (after P R S l1 l2).1 ∧ OwnI wr w.heap.size (.slice A6 q c6) (iat (nulls vs)) ∧ Below w.heap.size w wr) (fun _ _ wr => wr.rangeLeft w1.heap.size w5.heap.size)
      case atStart => exact ⟨true, true, _, HRG6.out, rfl, rfl, HI6.out, HBT6.out⟩
      case round =>
        obtain ⟨l1, l2, cnt, hrg, rfl, rfl, hI, hb⟩ := hrel
        have HI := Lib.hid hI; clear hI
        have hle := after_le P R S l1 l2
        have HRL := Lib.hid hrg; clear hrg
        go_wp2_with (at_next; refine wpList_next_two rfl (.tmp 46) rfl w1.heap.size w5.heap.size (str R) (str S) l1 l2 cnt rfl HRL.out ?_ ?_ ?_)
        · intro e1 e2
          subst e1; subst e2
          have hbd : body k vs = [UInt8.ofNat (after P R S false false).1] ++ VecMath.cnt q ++ packed 1 (nulls vs) ++ (after P R S false false).2 := by
            unfold body; rw [HZ.out.2.2.2.2.2, HF.out.2]
          have hbs := HZ.out.2.2.2.2.2
          have hpk : BitMath.packS (iat (nulls vs)) 1 = packed 1 (nulls vs) := pack_nat (w := 1) (nulls_lt vs) (by omega)
          have hpl := packed_length 1 (nulls vs)
          rw [nulls_length, HF.out.2] at hpl
          have hcl := cnt_size q
          have hcs : (after P R S false false).2.length ≤ 400000 := by
            have := HZ.out
            rcases hle.2 with h | h | h <;> rw [h]
            · exact this.1
            · exact this.2.1
            · exact this.2.2.1
          have hle1 := hle.1
          clear hle
          clear HRL
          generalize after P R S false false = C at *
          obtain ⟨ca, cs⟩ := C
          simp only [] at hbd hcs hle1 ⊢
          have hK := fun w => count_any q w (by omega)
          have hPk : ∀ W, Below wr.heap.size wr W → Calls Tryz.prog 89 #[.slice A6 q c6, .int .i64 1] W fun e w' => e = .returned (.string (str (packed 1 (nulls vs)))) ∧ Below W.heap.size W w' := fun W h => by
            have := pack_any A6 q c6 (iat (nulls vs)) 1 W ((HI.out.below h).sl HZ.out.2.2.2.2.1) (by omega)
            rwa [hpk] at this
          have hw8 : IntKind.u8.wrap (ca : Int) = (ca : Int) := by rw [IntKind.wrap_u8]; omega
          have hcv := fun W g c => run_str_one W g c (ca : Int)
          have hs0 := byte_str hle1
          rw [hs0] at hcv
          have e1 := str_append [UInt8.ofNat ca] (VecMath.cnt q)
          have e2 := str_append ([UInt8.ofNat ca] ++ VecMath.cnt q) (packed 1 (nulls vs))
          have e3 := str_append ([UInt8.ofNat ca] ++ VecMath.cnt q ++ packed 1 (nulls vs)) cs
          rw [← hbd] at e3
          have hadd1 := add_str (str [UInt8.ofNat ca]) (str (VecMath.cnt q)) (by rw [str_size, str_size]; simp; omega)
          have hadd2 := add_str (str [UInt8.ofNat ca] ++ str (VecMath.cnt q)) (str (packed 1 (nulls vs))) (by rw [e1, str_size, str_size, List.length_append, hpl]; simp; omega)
          have hadd3 := add_str (str [UInt8.ofNat ca] ++ str (VecMath.cnt q) ++ str (packed 1 (nulls vs))) (str cs) (by rw [e1, e2, str_size, str_size, List.length_append, List.length_append, hpl]; simp; omega)
          have hEE : str [UInt8.ofNat ca] ++ str (VecMath.cnt q) ++ str (packed 1 (nulls vs)) ++ str cs = str (body k vs) := by rw [e1, e2, e3]
          have HE := Lib.hid (And.intro hEE hbs)
          clear e1 e2 e3 hEE hbs hbd hpl hcl hcs hpk hs0
          generalize str [UInt8.ofNat ca] = X0 at *
          generalize str (VecMath.cnt q) = X1 at *
          generalize str (packed 1 (nulls vs)) = X2 at *
          generalize str cs = X3 at *
          have HK := Lib.hid hK; clear hK
          have HPk := Lib.hid hPk; clear hPk
          go_wp2
          go_region_with (first
            | (go_at_call 88; (with_reducible refine (HK.out _).mono ?_); rintro e wC ⟨rfl, hbC⟩; (try have hz1 : wC.cell? ⟨wr.heap.size, 0, none⟩ = some (.int .u8 (ca : Int)) := keep_new (V := wr.drew) hbC); (first | have hq1 : Below wr.heap.size wr wC := bthen (Below.refl _ wr).drew hbC (Nat.le_refl _) | have hq1 : Below wr.heap.size wr wC := bthen ((Below.refl _ wr).drew.alloc (Nat.le_refl _) (.cells #[.int .u8 (ca : Int)] 5)) hbC (Nat.le_refl _)))
            | (go_at_call 89; (first | refine (HPk.out _ hq1).mono ?_ | refine (HPk.out _ (hq1.alloc hq1.size _)).mono ?_); rintro e wP ⟨rfl, hbP⟩; (try have hz2 : wP.cell? ⟨wC.heap.size, 0, none⟩ = some (.int .u8 (ca : Int)) := keep_new (V := wC) hbP); (try have hz3 : wP.cell? ⟨wr.heap.size, 0, none⟩ = some (.int .u8 (ca : Int)) := keep_cell hbP hz1); (first | have hq2 : Below wr.heap.size wr wP := bthen hq1 hbP (Nat.le_refl _) | have hq2 : Below wr.heap.size wr wP := bthen (hq1.alloc hq1.size _) hbP (Nat.le_refl _))))
          all_goals
            go_wp2_with fail
            go_ret2
            first
              | exact ⟨ret_is (by rw [HE.out.2]) (by exact HE.out.1), bthen hb hq2 (Nat.le_refl _)⟩
              | exact ⟨ret_is (by rw [HE.out.2]) (by exact HE.out.1), (bthen hb hq2 (Nat.le_refl _)).alloc (Below.size (bthen hb hq2 (Nat.le_refl _))) _⟩
        · intro e1 w7 cnt7 hrg7 hlt hg7 hs7 hen
          subst e1
          have HRG := Lib.hid hrg7; clear hrg7
          have HIn := Lib.hid (HI.out.keepB hg7 hnI5)
          have HBn := Lib.hid (hb.grown hg7 hb.size (fun j hj => by simp at hj; omega))
          have hA := after_one P R S l2
          generalize hC : after P R S true l2 = C at *
          obtain ⟨ca, cs⟩ := C
          simp only [] at hA hle
          by_cases x1 : R.length < cs.length
          · have hA2 : _ = _ := hA.trans (if_pos (.inl x1))
            have HA2 := Lib.hid hA2; clear hA hA2
            have y1 : (str R).size < (str cs).size := by rw [str_size, str_size]; exact x1
            have d1 : decide ((str R).size < (str cs).size) = true := decide_eq_true y1
            have d1' : decide (((str R).size : Int) < ((str cs).size : Int)) = true := decide_eq_true (by omega)
            clear x1
            go_wp2
            go_roundw
            case rel => exact ⟨false, l2, _, HRG.out, by rw [HA2.out], by rw [HA2.out]; rfl, HIn.out, HBn.out⟩
            case measure => rw [HRG.out.left_eq, HRL.out.left_eq]; exact hlt
          · have d1 : decide ((str R).size < (str cs).size) = false := decide_eq_false (by rw [str_size, str_size]; exact x1)
            have d1' : decide (((str R).size : Int) < ((str cs).size : Int)) = false := decide_eq_false (by rw [str_size, str_size]; omega)
            by_cases x2 : R.length = cs.length
            · have d2 : (((str R).size : Int) == ((str cs).size : Int)) = true := by rw [str_size, str_size, x2]; simp
              have d2' : ((str R).size == (str cs).size) = true := by rw [str_size, str_size, x2]; simp
              by_cases x3 : 1 < ca
              · have hA2 : _ = _ := hA.trans (if_pos (.inr ⟨x2, x3⟩))
                have HA2 := Lib.hid hA2; clear hA hA2
                have d3 : decide ((1 : Int) < (ca : Int)) = true := decide_eq_true (by omega)
                clear x1 x2
                go_wp2
                go_roundw
                case rel => exact ⟨false, l2, _, HRG.out, by rw [HA2.out], by rw [HA2.out]; rfl, HIn.out, HBn.out⟩
                case measure => rw [HRG.out.left_eq, HRL.out.left_eq]; exact hlt
              · have hA2 : _ = _ := hA.trans (if_neg (by rintro (h | ⟨_, h⟩); exact x1 h; exact x3 h))
                have HA2 := Lib.hid hA2; clear hA hA2
                have d3 : decide ((1 : Int) < (ca : Int)) = false := decide_eq_false (by omega)
                clear x1 x2
                go_wp2
                go_roundw
                case rel => exact ⟨false, l2, _, HRG.out, by rw [HA2.out], by rw [HA2.out], HIn.out, HBn.out⟩
                case measure => rw [HRG.out.left_eq, HRL.out.left_eq]; exact hlt
            · have hA2 : _ = _ := hA.trans (if_neg (by rintro (h | ⟨h, _⟩); exact x1 h; exact x2 h))
              have HA2 := Lib.hid hA2; clear hA hA2
              have d2 : (((str R).size : Int) == ((str cs).size : Int)) = false := by rw [str_size, str_size]; simp; omega
              have d2' : ((str R).size == (str cs).size) = false := by rw [str_size, str_size]; simpa using x2
              clear x1 x2
              go_wp2
              go_roundw
              case rel => exact ⟨false, l2, _, HRG.out, by rw [HA2.out], by rw [HA2.out], HIn.out, HBn.out⟩
              case measure => rw [HRG.out.left_eq, HRL.out.left_eq]; exact hlt
        · intro e2 w7 cnt7 hrg7 hlt hg7 hs7 hen
          subst e2
          have HRG := Lib.hid hrg7; clear hrg7
          have HIn := Lib.hid (HI.out.keepB hg7 hnI5)
          have HBn := Lib.hid (hb.grown hg7 hb.size (fun j hj => by simp at hj; omega))
          have hA := after_two P R S l1
          generalize hC : after P R S l1 true = C at *
          obtain ⟨ca, cs⟩ := C
          simp only [] at hA hle
          by_cases x1 : S.length < cs.length
          · have hA2 : _ = _ := hA.trans (if_pos (.inl x1))
            have HA2 := Lib.hid hA2; clear hA hA2
            have y1 : (str S).size < (str cs).size := by rw [str_size, str_size]; exact x1
            have d1 : decide ((str S).size < (str cs).size) = true := decide_eq_true y1
            have d1' : decide (((str S).size : Int) < ((str cs).size : Int)) = true := decide_eq_true (by omega)
            clear x1
            go_wp2
            go_roundw
            case rel => exact ⟨l1, false, _, HRG.out, by rw [HA2.out], by rw [HA2.out]; rfl, HIn.out, HBn.out⟩
            case measure => rw [HRG.out.left_eq, HRL.out.left_eq]; exact hlt
          · have d1 : decide ((str S).size < (str cs).size) = false := decide_eq_false (by rw [str_size, str_size]; exact x1)
            have d1' : decide (((str S).size : Int) < ((str cs).size : Int)) = false := decide_eq_false (by rw [str_size, str_size]; omega)
            by_cases x2 : S.length = cs.length
            · have d2 : (((str S).size : Int) == ((str cs).size : Int)) = true := by rw [str_size, str_size, x2]; simp
              have d2' : ((str S).size == (str cs).size) = true := by rw [str_size, str_size, x2]; simp
              by_cases x3 : 2 < ca
              · have hA2 : _ = _ := hA.trans (if_pos (.inr ⟨x2, x3⟩))
                have HA2 := Lib.hid hA2; clear hA hA2
                have d3 : decide ((2 : Int) < (ca : Int)) = true := decide_eq_true (by omega)
                clear x1 x2
                go_wp2
                go_roundw
                case rel => exact ⟨l1, false, _, HRG.out, by rw [HA2.out], by rw [HA2.out]; rfl, HIn.out, HBn.out⟩
                case measure => rw [HRG.out.left_eq, HRL.out.left_eq]; exact hlt
              · have hA2 : _ = _ := hA.trans (if_neg (by rintro (h | ⟨_, h⟩); exact x1 h; exact x3 h))
                have HA2 := Lib.hid hA2; clear hA hA2
                have d3 : decide ((2 : Int) < (ca : Int)) = false := decide_eq_false (by omega)
                clear x1 x2
                go_wp2
                go_roundw
                case rel => exact ⟨l1, false, _, HRG.out, by rw [HA2.out], by rw [HA2.out], HIn.out, HBn.out⟩
                case measure => rw [HRG.out.left_eq, HRL.out.left_eq]; exact hlt
            · have hA2 : _ = _ := hA.trans (if_neg (by rintro (h | ⟨h, _⟩); exact x1 h; exact x2 h))
              have HA2 := Lib.hid hA2; clear hA hA2
              have d2 : (((str S).size : Int) == ((str cs).size : Int)) = false := by rw [str_size, str_size]; simp; omega
              have d2' : ((str S).size == (str cs).size) = false := by rw [str_size, str_size]; simpa using x2
              clear x1 x2
              go_wp2
              go_roundw
              case rel => exact ⟨l1, false, _, HRG.out, by rw [HA2.out], by rw [HA2.out], HIn.out, HBn.out⟩
              case measure => rw [HRG.out.left_eq, HRL.out.left_eq]; exact hlt
end Go.Proofs.YtgmemdedpklnhaaGreat.Vec
