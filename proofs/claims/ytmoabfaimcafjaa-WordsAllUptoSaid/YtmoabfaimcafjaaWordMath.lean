/-
  PLAIN LAW OF WORDS, chapter 8: values by their place, over lists. No program in sight.
-/
import Derived.Test.YtmoabfaimcafjaaRunMath
namespace Go.Proofs.Ytmoabfaimcafjaa.ValMath

/-- The first place of a value; the length where it is none. -/
def place (ws : List Val) (v : Val) : Nat := ws.findIdx (fun u => decide (u = v))
theorem place_le (ws : List Val) (v : Val) : place ws v ≤ ws.length := List.findIdx_le_length
theorem place_lt {ws : List Val} {v : Val} : place ws v < ws.length ↔ v ∈ ws := by
  unfold place
  rw [List.findIdx_lt_length]
  constructor
  · rintro ⟨x, hx, h⟩; have := of_decide_eq_true h; subst this; exact hx
  · intro h; exact ⟨v, h, by simp⟩
theorem place_at {ws : List Val} {v : Val} (h : place ws v < ws.length) : ws[place ws v] = v := by
  have := List.findIdx_getElem (p := fun u => decide (u = v)) (xs := ws) (w := h)
  exact of_decide_eq_true this
theorem place_first {ws : List Val} {v : Val} {i : Nat} (h : i < place ws v) : ∃ u, ws[i]? = some u ∧ u ≠ v := by
  have hl : i < ws.length := Nat.lt_of_lt_of_le h (place_le ws v)
  have := List.not_of_lt_findIdx (p := fun u => decide (u = v)) (xs := ws) h
  exact ⟨ws[i], List.getElem?_eq_getElem hl, fun e => by simp [e] at this⟩
theorem place_eq {ws : List Val} {v : Val} {k : Nat} (h1 : ∀ i, i < k → ∀ u, ws[i]? = some u → u ≠ v) (h2 : ws[k]? = some v) : place ws v = k := by
  rcases Nat.lt_trichotomy (place ws v) k with h | h | h
  · have hl : place ws v < ws.length := by
      rcases Nat.lt_or_ge k ws.length with h' | h'
      · omega
      · rw [List.getElem?_eq_none h'] at h2; cases h2
    exact absurd (place_at hl) (h1 _ h _ (List.getElem?_eq_getElem hl))
  · exact h
  · obtain ⟨u, hu, hne⟩ := place_first h
    rw [h2] at hu; injection hu with hu; exact absurd hu.symm hne
theorem place_none {ws : List Val} {v : Val} (h1 : ∀ i, i < ws.length → ∀ u, ws[i]? = some u → u ≠ v) : place ws v = ws.length := by
  have := place_le ws v
  rcases Nat.lt_or_ge (place ws v) ws.length with h | h
  · exact absurd (place_at h) (h1 _ h _ (List.getElem?_eq_getElem h))
  · omega

/-- One value more: the words, the places. -/
def addW (s : List Val × List Nat) (v : Val) : List Val × List Nat :=
  (if place s.1 (clean v) < s.1.length then s.1 else s.1 ++ [clean v], s.2 ++ [place s.1 (clean v)])
def build (vs : List Val) : List Val × List Nat := vs.foldl addW ([], [])
theorem build_nil : build [] = ([], []) := rfl
theorem build_snoc (vs : List Val) (v : Val) : build (vs ++ [v]) = addW (build vs) v := by simp [build, List.foldl_append]
theorem build_at_length (vs : List Val) : (build vs).2.length = vs.length := by
  induction vs using snoc_ind with
  | h0 => rfl
  | h1 vs v ih => rw [build_snoc]; simp [addW, ih]
theorem build_ws_length (vs : List Val) : (build vs).1.length ≤ vs.length := by
  induction vs using snoc_ind with
  | h0 => simp [build]
  | h1 vs v ih => rw [build_snoc]; simp only [addW]; split <;> simp <;> omega
theorem build_ws_clean (vs : List Val) : ∀ u ∈ (build vs).1, clean u = u := by
  induction vs using snoc_ind with
  | h0 => simp [build]
  | h1 vs v ih =>
    rw [build_snoc]
    intro u hu
    simp only [addW] at hu
    split at hu
    · exact ih u hu
    · rw [List.mem_append] at hu
      rcases hu with hu | hu
      · exact ih u hu
      · simp at hu; subst hu; exact clean_clean v
theorem build_nodup (vs : List Val) : (build vs).1.Nodup := by
  induction vs using snoc_ind with
  | h0 => simp [build]
  | h1 vs v ih =>
    rw [build_snoc]
    simp only [addW]
    split
    · exact ih
    · rename_i h
      rw [List.nodup_append]
      refine ⟨ih, by simp, ?_⟩
      intro a ha b hb
      simp at hb; subst hb
      intro e; subst e
      exact h (place_lt.2 ha)
theorem build_at_lt (vs : List Val) : ∀ a ∈ (build vs).2, a < (build vs).1.length := by
  induction vs using snoc_ind with
  | h0 => simp [build]
  | h1 vs v ih =>
    rw [build_snoc]
    intro a ha
    simp only [addW] at ha ⊢
    rw [List.mem_append] at ha
    have hp := place_le (build vs).1 (clean v)
    rcases ha with ha | ha
    · have := ih a ha; split <;> simp <;> omega
    · simp at ha; subst ha; split <;> simp <;> omega
/-- A word stays where it is. -/
theorem addW_prefix (s : List Val × List Nat) (v : Val) : ∃ r, (addW s v).1 = s.1 ++ r := by
  unfold addW; simp only []; split
  · exact ⟨[], by simp⟩
  · exact ⟨[clean v], rfl⟩
theorem addW_word (s : List Val × List Nat) (v : Val) : (addW s v).1[place s.1 (clean v)]? = some (clean v) := by
  unfold addW; simp only []
  split
  · rename_i h; rw [List.getElem?_eq_getElem h, place_at h]
  · rename_i h
    have : place s.1 (clean v) = s.1.length := by have := place_le s.1 (clean v); omega
    rw [this]; simp
theorem build_words (vs : List Val) : (build vs).2.map (fun a => (build vs).1.getD a nul) = vs.map clean := by
  induction vs using snoc_ind with
  | h0 => rfl
  | h1 vs v ih =>
    obtain ⟨r, hr⟩ := addW_prefix (build vs) v
    have hw := addW_word (build vs) v
    rw [build_snoc, List.map_append, ← ih]
    have h2 : (addW (build vs) v).2 = (build vs).2 ++ [place (build vs).1 (clean v)] := rfl
    rw [h2, List.map_append]
    congr 1
    · refine List.map_congr_left fun a ha => ?_
      rw [hr, List.getD_eq_getElem?_getD, List.getElem?_append_left (build_at_lt vs a ha), List.getD_eq_getElem?_getD]
    · simp only [List.map_cons, List.map_nil]
      rw [List.getD_eq_getElem?_getD, hw]; rfl

/-- Values by their places. -/
def look (ws : List Val) (at_ : List Int) : Option (List Val) :=
  if (ws.map clean).Nodup ∧ ∀ a ∈ at_, 0 ≤ a ∧ a < (ws.length : Int) then some (at_.map fun a => clean (ws.getD a.toNat nul)) else none
def iat (at_ : List Nat) : List Int := at_.map fun (n : Nat) => (n : Int)

theorem map_clean_id {ws : List Val} (h : ∀ u ∈ ws, clean u = u) : ws.map clean = ws := by
  induction ws with
  | nil => rfl
  | cons a ws ih => rw [List.map_cons, h a (by simp), ih (fun u hu => h u (by simp [hu]))]

theorem look_build (vs : List Val) : look (build vs).1 (iat (build vs).2) = some (vs.map clean) := by
  unfold look
  rw [if_pos]
  · congr 1
    rw [← build_words]
    unfold iat
    rw [List.map_map]
    refine List.map_congr_left fun a ha => ?_
    have hlt := build_at_lt vs a ha
    simp only [Function.comp, Int.toNat_natCast]
    rw [List.getD_eq_getElem?_getD, List.getElem?_eq_getElem hlt]
    exact build_ws_clean vs _ (List.getElem_mem hlt)
  · refine ⟨by rw [map_clean_id (build_ws_clean vs)]; exact build_nodup vs, ?_⟩
    intro a ha
    simp only [iat, List.mem_map] at ha
    obtain ⟨b, hb, rfl⟩ := ha
    have := build_at_lt vs b hb
    omega

/-- The greatest place so far; -1 of none. -/
def top (at_ : List Nat) : Int := at_.foldl (fun (m : Int) (a : Nat) => max m (a : Int)) (-1)
theorem top_nil : top [] = -1 := rfl
theorem top_snoc (at_ : List Nat) (a : Nat) : top (at_ ++ [a]) = max (top at_) (a : Int) := by simp [top, List.foldl_append]
theorem build_top (vs : List Val) : top (build vs).2 + 1 = ((build vs).1.length : Int) := by
  induction vs using snoc_ind with
  | h0 => rfl
  | h1 vs v ih =>
    rw [build_snoc]
    have h2 : (addW (build vs) v).2 = (build vs).2 ++ [place (build vs).1 (clean v)] := rfl
    have hp := place_le (build vs).1 (clean v)
    rw [h2, top_snoc]
    simp only [addW]
    split
    · omega
    · rw [List.length_append]; simp; omega
theorem build_at_top (vs : List Val) (k : Nat) (h : k < (build vs).2.length) : ((build vs).2[k] : Int) ≤ top ((build vs).2.take k) + 1 := by
  induction vs using snoc_ind with
  | h0 => simp [build] at h
  | h1 vs v ih =>
    have h2 : (build (vs ++ [v])).2 = (build vs).2 ++ [place (build vs).1 (clean v)] := by rw [build_snoc]; rfl
    have key : ∀ (l : List Nat) (_ : l = (build (vs ++ [v])).2) (hk : k < l.length), (l[k] : Int) ≤ top (l.take k) + 1 := by
      intro l hl hk
      rw [h2] at hl
      subst hl
      rw [List.length_append] at hk
      simp at hk
      by_cases hlt : k < (build vs).2.length
      · rw [List.getElem_append_left hlt, List.take_append_of_le_length (by omega)]
        exact ih hlt
      · have : k = (build vs).2.length := by omega
        subst this
        rw [List.getElem_append_right (by omega), List.take_left]
        simp
        have := build_top vs
        have := place_le (build vs).1 (clean v)
        omega
    exact key _ rfl h

theorem build_ws_mem (vs : List Val) (u : Val) : u ∈ (build vs).1 ↔ ∃ v ∈ vs, clean v = u := by
  induction vs using snoc_ind with
  | h0 => simp [build]
  | h1 vs v ih =>
    rw [build_snoc]
    simp only [addW]
    split
    · rename_i h
      rw [ih]
      constructor
      · rintro ⟨x, hx, e⟩; exact ⟨x, by simp [hx], e⟩
      · rintro ⟨x, hx, e⟩
        rw [List.mem_append] at hx
        rcases hx with hx | hx
        · exact ⟨x, hx, e⟩
        · simp at hx; subst hx; subst e; exact ih.1 (place_lt.1 h)
    · rw [List.mem_append, ih]
      constructor
      · rintro (⟨x, hx, e⟩ | h)
        · exact ⟨x, by simp [hx], e⟩
        · simp at h; exact ⟨v, by simp, h.symm⟩
      · rintro ⟨x, hx, e⟩
        rw [List.mem_append] at hx
        rcases hx with hx | hx
        · exact .inl ⟨x, hx, e⟩
        · simp at hx; subst hx; subst e; exact .inr (by simp)
end Go.Proofs.Ytmoabfaimcafjaa.ValMath
