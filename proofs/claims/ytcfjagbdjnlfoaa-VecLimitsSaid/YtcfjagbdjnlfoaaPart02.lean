/-
  Lemmas of this claim, text behind text: UnvMore, VecSizes. Each states its own conditions.
-/
import Derived.Test.YtcfjagbdjnlfoaaPart01

/-
  PLAIN LAW OF COLUMNS, the document's way back: what is amiss stays amiss. No program in sight.
-/

namespace Go.Proofs.Ytcfjagbdjnlfoaa.VecMath
open ValMath

theorem rdBytes_keep {n : Nat} {r : Rd} (h : r.bad = true) : (rdBytes n r).2.bad = true := by
  unfold rdBytes; rw [if_pos (.inl h)]; rfl
theorem rdNum_keep {n : Nat} {r : Rd} (h : r.bad = true) : (rdNum n r).2.bad = true := by
  unfold rdNum; rw [if_pos (.inl h)]; rfl
theorem rdVal_keep {k : Int} {r : Rd} (h : r.bad = true) : (rdVal k r).2.bad = true := by
  unfold rdVal
  split
  · rw [if_pos (.inl h)]; rfl
  · split
    · exact rdBytes_keep h
    · exact rdBytes_keep (rdNum_keep h)
theorem rdPackedR_keep {m w : Nat} {r : Rd} (h : r.bad = true) : (rdPackedR m w r).2.bad = true := by
  unfold rdPackedR; rw [if_pos (.inl h)]; rfl
theorem readValsR_keep {k : Int} {n : Nat} {r : Rd} (h : r.bad = true) : (readValsR k n r).2.bad = true := by
  induction n with
  | zero => exact h
  | succ n ih => simp only [readValsR]; rw [if_pos ih]; exact ih
theorem runsR_keep {k : Int} {m n : Nat} {r : Rd} (h : r.bad = true) : (runsR k m n r).2.bad = true := by
  induction n with
  | zero => exact h
  | succ n ih => simp only [runsR, runStepR]; rw [if_pos ih]; exact ih
theorem placesR_keep {ws : List Val} {l : List Nat} {r : Rd} (h : r.bad = true) : (placesR ws l r).2.bad = true := by
  cases l with
  | nil => exact h
  | cons a l => simp only [placesR]; rw [if_pos h]; exact h
theorem someR_keep {k : Int} {e m : Nat} {r : Rd} (h : r.bad = true) : (someR k e m r).2.bad = true := by
  unfold someR
  split
  · exact runsR_keep (rdNum_keep h)
  · split
    · unfold wordsR; exact placesR_keep (rdPackedR_keep (readValsR_keep (rdNum_keep h)))
    · split
      · exact rdPackedR_keep h
      · exact readValsR_keep h
theorem someR_was {k : Int} {e m : Nat} {r : Rd} (h : (someR k e m r).2.bad = false) : r.bad = false := by
  cases hb : r.bad with
  | false => rfl
  | true => rw [someR_keep hb] at h; cases h
theorem rdPackedR_full {m w : Nat} {r : Rd} (h : (rdPackedR m w r).2.bad = false) : (rdPackedR m w r).1.length = m := by
  unfold rdPackedR at h ⊢
  by_cases hc : r.bad = true ∨ 4096 < m
  · rw [if_pos hc] at h; cases h
  · rw [if_neg hc] at h ⊢
    unfold rdPackedP at h ⊢
    cases hu : unpack (rdBytes ((m * w + 7) / 8) r).1 m w with
    | none => rw [hu] at h; cases h
    | some xs => simp only []; exact unpack_length hu
theorem runsR_stop {k : Int} {m q : Nat} {r : Rd} (h : (runsR k m q r).2.bad = true) (j : Nat) : runsR k m (q + j) r = runsR k m q r := by
  induction j with
  | zero => rfl
  | succ j ih =>
    rw [← Nat.add_assoc]
    simp only [runsR, runStepR]
    rw [ih, if_pos h]
/-- Up to place q, all of them there. -/
theorem placesR_from {ws : List Val} {l : List Nat} {r : Rd} (hb : r.bad = false) {q : Nat} (h : ∀ a ∈ l.take q, a < ws.length) :
    placesR ws l r = ((l.take q).map (fun a => ws.getD a nul) ++ (placesR ws (l.drop q) r).1, (placesR ws (l.drop q) r).2) := by
  induction q generalizing l with
  | zero => rfl
  | succ q ih =>
    cases l with
    | nil => rfl
    | cons a l =>
      have ha := h a (by simp)
      have := ih (l := l) (fun b hb' => h b (by simp [hb']))
      simp only [placesR]
      rw [if_neg (by rw [hb]; simp), if_neg (by omega), this]
      rfl
theorem placesR_stop {ws : List Val} {l : List Nat} {r : Rd} (hb : r.bad = false) {q a : Nat} (h : ∀ a ∈ l.take q, a < ws.length) (ha : l[q]? = some a) (hx : ws.length ≤ a) :
    placesR ws l r = ((l.take q).map (fun a => ws.getD a nul), r.fail) := by
  rw [placesR_from hb h]
  have hl : q < l.length := (List.getElem?_eq_some_iff.1 ha).1
  rw [List.drop_eq_getElem_cons hl]
  rw [List.getElem?_eq_getElem hl] at ha; injection ha with ha
  rw [ha]
  simp only [placesR]
  rw [if_neg (by rw [hb]; simp), if_pos hx, List.append_nil]
theorem placesR_bad {ws : List Val} {l : List Nat} {r : Rd} (hb : r.bad = true) : placesR ws l r = ([], r) := by
  cases l with
  | nil => rfl
  | cons a l => simp only [placesR]; rw [if_pos hb]
end Go.Proofs.Ytcfjagbdjnlfoaa.VecMath

/-
  PLAIN LAW OF COLUMNS, sizes and limits: like values take few bytes, nulls a bit each; how many, how long. No program in sight.
-/

namespace Go.Proofs.Ytcfjagbdjnlfoaa.VecMath
open ValMath

theorem enc_one {x : Nat} (h : x < 128) : (VarMath.enc x).length = 1 := by
  unfold VarMath.enc; simp only [VarMath.put]; rw [if_pos h]; rfl
theorem enc_two {x : Nat} (h : x < 16384) : (VarMath.enc x).length ≤ 2 := by
  by_cases h1 : x < 128
  · rw [enc_one h1]; omega
  · unfold VarMath.enc; simp only [VarMath.put]; rw [if_neg h1, if_pos (show x / 128 < 128 by omega)]; simp
theorem enc_ten (x : Nat) : (VarMath.enc x).length ≤ 10 := VarMath.put_length_le 9 x
theorem enc_pos (x : Nat) : 1 ≤ (VarMath.enc x).length := VarMath.put_length_pos 9 x

def num1 (v : Int) : Val := ⟨1, v, false, ByteArray.empty⟩
theorem clean_num (v : Int) : clean (num1 v) = num1 v := by unfold clean num1; simp
theorem null_num (v : Int) : isNull (num1 v) = false := by unfold isNull; rw [clean_num]; rfl
theorem fits_num (v : Int) : fits 1 (num1 v) = true := by unfold fits; rw [clean_num]; simp [num1]; decide
theorem null_nul : isNull nul = true := by unfold isNull; rw [clean_nul]; rfl
theorem fits_nul (k : Int) : fits k nul = true := by unfold fits; rw [clean_nul]; rfl
theorem somes_num (v : Int) (k : Nat) : somes (List.replicate k (num1 v)) = List.replicate k (num1 v) := by
  unfold somes
  induction k with
  | zero => rfl
  | succ k ih => rw [List.replicate_succ, List.filter_cons, null_num]; simp only [Bool.not_false, if_true, List.map_cons, clean_num, ih]
theorem somes_nul (k : Nat) : somes (List.replicate k nul) = [] := by
  unfold somes
  induction k with
  | zero => rfl
  | succ k ih => rw [List.replicate_succ, List.filter_cons, null_nul]; simpa using ih
theorem cut_num (v : Int) (k : Nat) : cut (List.replicate (k + 1) (num1 v)) = [(k + 1, num1 v)] := by
  induction k with
  | zero =>
    show push [] (num1 v) = _
    rw [push_other (lastIs_nil _), clean_num]; rfl
  | succ k ih =>
    rw [List.replicate_succ', cut_snoc, ih]
    exact push_same (acc := []) (clean_num v).symm
theorem mayErr_all {k : Int} {vs : List Val} (hk : k = 1 ∨ k = 2 ∨ k = 3) (hl : vs.length ≤ 4096) (hf : ∀ v ∈ vs, fits k v = true) : mayErr k vs = 0 := by
  unfold mayErr
  rw [if_neg (by omega), if_neg (by omega), if_pos (by rw [List.all_eq_true]; exact hf)]
theorem seal_length (l : List UInt8) : (CrcMath.seal_ l).length = l.length + 4 := by unfold CrcMath.seal_; rw [List.length_append]; rfl
theorem body_length (k : Int) (vs : List Val) : (body k vs).length = 1 + (cnt vs.length).length + (vs.length + 7) / 8 + (best k vs).2.length := by
  have h3 := packed_length 1 (nulls vs)
  rw [nulls_length] at h3
  unfold body
  simp only [List.length_append, List.length_singleton]
  omega
theorem scalar_num (v : Int) : 1 ≤ (scalar (num1 v)).length ∧ (scalar (num1 v)).length ≤ 10 := by
  unfold scalar; rw [if_pos (show (num1 v).k = 1 from rfl)]; exact ⟨enc_pos _, enc_ten _⟩
theorem flat_num (v : Int) (k : Nat) : k ≤ ((List.replicate k (num1 v)).flatMap scalar).length := by
  induction k with
  | zero => simp
  | succ k ih =>
    rw [List.replicate_succ, List.flatMap_cons, List.length_append]
    have := (scalar_num v).1; omega
theorem short_num (v : Int) (k : Nat) (h1 : 64 ≤ k) (h2 : k ≤ 1087) :
    mayErr 1 (List.replicate k (num1 v)) = 0 ∧ encOf 1 (List.replicate k (num1 v)) ≠ 0 ∧ (put 1 (List.replicate k (num1 v))).length ≤ k / 8 + 24 := by
  have hm : mayErr 1 (List.replicate k (num1 v)) = 0 := mayErr_all (.inl rfl) (by rw [List.length_replicate]; omega) (fun u hu => by rw [List.mem_replicate] at hu; rw [hu.2]; exact fits_num v)
  refine ⟨hm, ?_, ?_⟩
  all_goals
    obtain ⟨j, rfl⟩ : ∃ j, k = j + 1 := ⟨k - 1, by omega⟩
    have hr : (encRuns (List.replicate (j + 1) (num1 v))).length ≤ 13 := by
      unfold encRuns
      rw [cut_num]
      simp only [List.length_append, List.flatMap_cons, List.flatMap_nil, List.length_nil, List.length_singleton]
      have a := enc_one (x := 1) (by omega)
      have b := enc_two (x := j + 1) (by omega)
      have c := (scalar_num v).2
      unfold cnt
      omega
    have hp : 64 ≤ (encPlain 1 (List.replicate (j + 1) (num1 v))).length := by
      unfold encPlain; rw [if_neg (by decide)]
      have := flat_num v (j + 1); omega
  · unfold encOf; rw [if_pos hm]; unfold best; rw [somes_num]; unfold best3
    rw [if_pos (by omega)]; split <;> simp
  · unfold put; rw [if_pos hm, seal_length, body_length, List.length_replicate]
    have hb : (best 1 (List.replicate (j + 1) (num1 v))).2.length ≤ 13 := by
      unfold best; rw [somes_num]; unfold best3
      rw [if_pos (by omega)]; split <;> simp only [] <;> omega
    have b := enc_two (x := j + 1) (by omega)
    unfold cnt
    omega
theorem short_nul (k : Nat) (h2 : k ≤ 1087) :
    mayErr 1 (List.replicate k nul) = 0 ∧ encOf 1 (List.replicate k nul) = 0 ∧ (put 1 (List.replicate k nul)).length ≤ k / 8 + 9 := by
  have hm : mayErr 1 (List.replicate k nul) = 0 := mayErr_all (.inl rfl) (by rw [List.length_replicate]; omega) (fun u hu => by rw [List.mem_replicate] at hu; rw [hu.2]; exact fits_nul 1)
  have hb : best 1 (List.replicate k nul) = (0, []) := by
    unfold best; rw [somes_nul]; unfold encPlain best3; rw [if_neg (by decide)]; rfl
  refine ⟨hm, ?_, ?_⟩
  · unfold encOf; rw [if_pos hm, hb]
  · unfold put; rw [if_pos hm, seal_length, body_length, List.length_replicate, hb]
    have b := enc_two (x := k) (by omega)
    unfold cnt
    simp only [List.length_nil]
    omega
theorem limit_many (k : Nat) : mayErr 2 (List.replicate k nul) = if k ≤ 4096 then 0 else 901 := by
  by_cases h : k ≤ 4096
  · rw [if_pos h]; exact mayErr_all (.inr (.inl rfl)) (by rw [List.length_replicate]; exact h) (fun u hu => by rw [List.mem_replicate] at hu; rw [hu.2]; exact fits_nul 2)
  · rw [if_neg h]; unfold mayErr; rw [if_neg (by decide), if_pos (by rw [List.length_replicate]; omega)]
theorem kind_limit {k : Int} (h : 3 < k ∨ k < 1) (vs : List Val) : mayErr k vs = 900 := by unfold mayErr; rw [if_pos (by omega)]
theorem unvec_empty (dec : Int → List UInt8 → Option (List Val)) (k : Int) : (unvec dec k []).2 ≠ 0 := by
  unfold unvec
  split
  · simp
  · rw [show CrcMath.open_ [] = none from by unfold CrcMath.open_; rfl]; simp
theorem clean_txt (s : ByteArray) : clean ⟨3, 0, false, s⟩ = ⟨3, 0, false, s⟩ := by unfold clean; simp
theorem fits_txt (s : ByteArray) : fits 3 ⟨3, 0, false, s⟩ = (decide (s.size ≤ 64) && UtfMath.valid s.data.toList) := by
  unfold fits; rw [clean_txt]; simp
theorem may_txt (s : ByteArray) : mayErr 3 [⟨3, 0, false, s⟩] = if s.size ≤ 64 ∧ UtfMath.valid s.data.toList = true then 0 else 901 := by
  unfold mayErr
  rw [if_neg (by decide), if_neg (by simp)]
  simp only [List.all_cons, List.all_nil, Bool.and_true, fits_txt, Bool.and_eq_true, decide_eq_true_eq]
theorem may_bad : mayErr 1 [⟨2, 0, false, ByteArray.empty⟩] = 901 := by decide
end Go.Proofs.Ytcfjagbdjnlfoaa.VecMath
