/-
  Lemmas of this claim, text behind text: FileGet, FileStats, StatEq, FileSame, FileAw, FileAwake. Each states its own conditions.
-/
import Derived.Test.YtgmemdedpklnhaaGreatPart03
import Derived.Test.YtgmemdedpklnhaaGreatPart06
import Derived.Test.YtgmemdedpklnhaaGreatPart14
import Derived.Test.YtgmemdedpklnhaaGreatPart16
import Derived.Test.YtgmemdedpklnhaaGreatPart17

/-
  THE WALK of colfile.Get.
-/


namespace Go.Proofs.YtgmemdedpklnhaaGreat.File
open Go.RowKit ValMath Vals Sl VecMath Vec Dat

def fdat (s : ByteArray) : Dat := (unfile decP s.data.toList).1
def fcode (s : ByteArray) : Int := ((unfile decP s.data.toList).2 : Nat)
theorem get_sum {s : ByteArray} (ho : CrcMath.open_ s.data.toList = none) : fdat s = noDat ∧ fcode s = 1101 := by
  unfold fdat fcode unfile; rw [ho]; exact ⟨rfl, rfl⟩
theorem get_form {s : ByteArray} {b : List UInt8} (ho : CrcMath.open_ s.data.toList = some b) (hd : decF decP b = none) : fdat s = noDat ∧ fcode s = 1100 := by
  unfold fdat fcode unfile; rw [ho]; simp only [hd]; exact ⟨trivial, rfl⟩
theorem get_worse {s : ByteArray} {b : List UInt8} {d : Dat} (ho : CrcMath.open_ s.data.toList = some b) (hd : decF decP b = some d) (hn : ¬ (fileOk d ∧ filePut d = s.data.toList)) : fdat s = noDat ∧ fcode s = 1100 := by
  unfold fdat fcode unfile; rw [ho]; simp only [hd]; rw [if_neg hn]; exact ⟨rfl, rfl⟩
theorem get_good {s : ByteArray} {b : List UInt8} {d : Dat} (ho : CrcMath.open_ s.data.toList = some b) (hd : decF decP b = some d) (hn : fileOk d ∧ filePut d = s.data.toList) : fdat s = d ∧ fcode s = 0 := by
  unfold fdat fcode unfile; rw [ho]; simp only [hd]; rw [if_pos hn]; exact ⟨rfl, rfl⟩
theorem rdCol_okR {dec : Int → List UInt8 → Option (List Val)} {r : Rd} (ok : OkR r) : OkR (rdCol dec r).2 := by
  unfold rdCol
  simp only []
  split <;> exact rdBytes_okR (rdNum_okR (rdByte_okR (rdNum_okR ok)))
theorem rdCols_okR {dec : Int → List UInt8 → Option (List Val)} {r : Rd} (n : Nat) (ok : OkR r) : OkR (rdCols dec n r).2 := by
  induction n with
  | zero => exact ok
  | succ n ih =>
    simp only [rdCols]
    split
    · exact ih
    · split <;> exact rdCol_okR ih
theorem rdCols_none {dec : Int → List UInt8 → Option (List Val)} {r : Rd} {q : Nat} (h : (rdCols dec q r).1 = none) (j : Nat) : (rdCols dec (q + j) r).1 = none := by
  induction j with
  | zero => exact h
  | succ j ih => rw [← Nat.add_assoc]; simp only [rdCols, ih]
def nextC (cs : List (Colm × List Val)) (x : Option (Colm × List Val) × Rd) : Option (List (Colm × List Val)) × Rd := match x.1 with
  | none => (none, x.2)
  | some c => (some (cs ++ [c]), x.2)
theorem rdCols_next {dec : Int → List UInt8 → Option (List Val)} {r : Rd} {q : Nat} {cs : List (Colm × List Val)} (h : (rdCols dec q r).1 = some cs) : rdCols dec (q + 1) r = nextC cs (rdCol dec (rdCols dec q r).2) := by
  cases hx : (rdCol dec (rdCols dec q r).2).1 <;> simp [rdCols, h, hx, nextC]
theorem rdBytes_le {n : Nat} {r : Rd} : (rdBytes n r).1.length ≤ n := by
  unfold rdBytes; split
  · simp
  · exact List.length_take_le _ _
theorem ownD_nil (w : World) (B : Nat) : OwnD w B noDat (.slice none 0 0) (.slice none 0 0) [] := ⟨OwnG.nil _ _ _ _ _, OwnG.nil _ _ _ _ _, by simp, rfl⟩
section
variable {w : World} {ops : Array Oper} {rest : List Oper} {o : Oper} {a : Act} {Q : Exit → Act → World → Prop}
theorem wpList_store_data (hgd : o.guard = none) (x y : Operand) (ho : o.op = .store 25 x y) (g : Nat) (rows rows0 : Int) (A A' A0 A0' : Option Addr) (n n' n0 n0' c c' c0 c0' : Nat)
    (hx : a.eval x = .pointer (some ⟨g, 0, none⟩)) (hy : a.eval y = .agg #[.int .i64 rows, .slice A n c, .slice A' n' c']) (hg : DBox w g rows0 (.slice A0 n0 c0) (.slice A0' n0' c0'))
    (h : ∀ wq, DBox wq g rows (.slice A n c) (.slice A' n' c') → w.grownBy wq (some g) → wq.heap.size = w.heap.size → wpList Tryz.prog ops Q rest (a.put o.dst undef) wq) : wpList Tryz.prog ops Q (o :: rest) a w := by
  have hi : (Tryz.prog.info? 25).map (·.size) = some 3 := by kernel_rfl
  refine wpList_store_row hgd 25 x y ho g #[.int .i64 rows, .slice A n c, .slice A' n' c'] hx hy 25 _ hg hi rfl (by simp [Value.oneCell']) ?_
  refine h _ (heap_setRow_same _ _ _ _ _ _ hg) ⟨rfl, rfl, rfl, by simp, fun k _ hne => setRow_other w g k _ (fun e => hne (by rw [e]))⟩ (by simp)
end
theorem dbox_keep {w w' : World} {B z n g : Nat} {e : TypeId} {v : Value} {xs : List Value} {R : Int} {C V : Value} (hg : DBox w g R C V) (h : w.ownsRow B e z v n xs) (hne : e ≠ 25) (hgr : w.grownBy w' v.ownBlock) : DBox w' g R C V := box_keep hg h hne hgr
theorem heap_new_at (w : World) (o : Obj) (g : Nat) (h : w.heap.size = g) : (w.alloc o).heap[g]? = some o := by subst h; exact heap_alloc_new w o
theorem col_one (i k : Int) (s : ByteArray) : ∀ u ∈ (#[.int .i64 i, .string s, .int .i64 k] : Array Value).toList, u.oneCell' = true := by simp [Value.oneCell']
theorem row_one (A : Option Addr) (n c : Nat) : ∀ u ∈ (#[.slice A n c] : Array Value).toList, u.oneCell' = true := by simp [Value.oneCell']
section
variable {w : World} {ops : Array Oper} {rest : List Oper} {o : Oper} {a : Act} {Q : Exit → Act → World → Prop}
theorem wpList_push_col (hgd : o.guard = none) (s x : Operand) (ho : o.op = .call { callee := .builtin .append, args := #[s, x], argTypes := #[22, 22] })
    (B : Nat) (v : Value) (xs : List Colm) (i k : Int) (nm : ByteArray) (g c : Nat) (W : World) (hs : a.eval s = v) (hx : a.eval x = .slice (some ⟨g, 0, none⟩) 1 c) (hw : w = W.alloc (.cells #[.int .i64 i, .string nm, .int .i64 k] 63)) (hg : W.heap.size = g)
    (hown : OwnC W B v xs) (hl : xs.length ≤ 12) (hB : B ≤ W.heap.size)
    (h : ∀ u wA, OwnC wA B u (xs ++ [⟨i, nm, k⟩]) → w.grownBy wA v.ownBlock → (u.ownBlock = v.ownBlock ∨ u.ownBlock = some w.heap.size) → wpList Tryz.prog ops Q rest (a.put o.dst u) wA) : wpList Tryz.prog ops Q (o :: rest) a w := by
  subst hw
  subst hg
  exact wpList_push_g (f := ccells) 63 22 _ 3 32 info_col Tryz.underlying22 rfl (Nat.succ_pos _) hgd s x ho B v xs ⟨i, nm, k⟩ W.heap.size c hs hx #[.int .i64 i, .string nm, .int .i64 k] rfl rfl (col_one _ _ _) (heap_alloc_new W _) (OwnG.alloc hown _) (by unfold maxLen; omega) (by omega) (Nat.le_trans hB (Below.size (Vals.one_new _))) h
theorem wpList_push_row (hgd : o.guard = none) (s x : Operand) (ho : o.op = .call { callee := .builtin .append, args := #[s, x], argTypes := #[23, 23] })
    (B : Nat) (v : Value) (rs : List RowA) (r : RowA) (g c : Nat) (W : World) (hs : a.eval s = v) (hx : a.eval x = .slice (some ⟨g, 0, none⟩) 1 c) (hw : w = W.alloc (.cells #[.slice r.A r.n r.c] 67)) (hg : W.heap.size = g)
    (hown : OwnR W B v rs) (hl : rs.length ≤ 12) (hB : B ≤ W.heap.size)
    (h : ∀ u wA, OwnR wA B u (rs ++ [r]) → w.grownBy wA v.ownBlock → (u.ownBlock = v.ownBlock ∨ u.ownBlock = some w.heap.size) → wpList Tryz.prog ops Q rest (a.put o.dst u) wA) : wpList Tryz.prog ops Q (o :: rest) a w := by
  subst hw
  subst hg
  exact wpList_push_g (f := rcells) 67 23 _ 1 24 info_row Tryz.underlying23 rfl (Nat.succ_pos _) hgd s x ho B v rs r W.heap.size c hs hx #[.slice r.A r.n r.c] rfl rfl (row_one _ _ _) (heap_alloc_new W _) (OwnG.alloc hown _) (by unfold maxLen; omega) (by omega) (Nat.le_trans hB (Below.size (Vals.one_new _))) h
end
theorem Mid.drew {w : World} {B gr g7 : Nat} {rq : Rd} {n1 : Int} {C V : Value} {cs : List (Colm × List Val)} {rs : List RowA} (h : Mid w B gr g7 rq n1 C V cs rs) : Mid w.drew B gr g7 rq n1 C V cs rs := ⟨h.rd, h.box, h.own.cols, h.own.rows, h.own.each, h.own.eq⟩
theorem err_zero {d : Dat} (h : fileErr d = 0) : fileOk d := by
  unfold fileErr at h
  by_cases hh : fileOk d
  · exact hh
  · rw [if_neg hh] at h; cases h
theorem OwnD.base {w : World} {B B' : Nat} {d : Dat} {C V : Value} {rs : List RowA} (h : OwnD w B' d C V rs) (hb : B ≤ B') : OwnD w B d C V rs := ⟨own_le h.cols hb, own_le h.rows hb, fun r hr => own_le (h.each r hr) hb, h.eq⟩
theorem OwnD.keep {w w' : World} {B g : Nat} {d : Dat} {C V : Value} {rs : List RowA} {R : Int} {C0 V0 : Value} (h : OwnD w B d C V rs) (hD : DBox w g R C0 V0) (hg : w.grownBy w' (some g)) : OwnD w' B d C V rs := by
  unfold DBox at hD
  exact ⟨own_keep h.cols hD (by decide) hg, own_keep h.rows hD (by decide) hg, fun r hr => own_keep (h.each r hr) hD (by decide) hg, h.eq⟩
def GetPost (s : ByteArray) (w : World) (e : Ending) (w' : World) : Prop :=
  ∃ (AC : Option Addr) (nC cC : Nat) (AV : Option Addr) (nV cV : Nat) (rs : List RowA), e = .returned (.tuple #[dagg (fdat s).rows AC nC cC AV nV cV, .int .i64 (fcode s)]) ∧ OwnD w' w.heap.size (fdat s) (.slice AC nC cC) (.slice AV nV cV) rs ∧ Below w.heap.size w w'
theorem post_none {s : ByteArray} {w w' : World} {e : Ending} {cd : Int} (h : fdat s = noDat ∧ fcode s = cd) (he : e = .returned (.tuple #[.agg #[.int .i64 0, .slice none 0 0, .slice none 0 0], .int .i64 cd])) (hb : Below w.heap.size w w') : GetPost s w e w' := by
  refine ⟨none, 0, 0, none, 0, 0, [], ?_, ?_, hb⟩
  · rw [h.1, h.2]; exact he
  · rw [h.1]; exact ownD_nil _ _
set_option maxRecDepth 20000 in
set_option maxHeartbeats 8000000 in
theorem get_any (s : ByteArray) (w : World) (hs : s.size ≤ maxReach) : Calls Tryz.prog 15 #[.string s] w (GetPost s w) := by
  have hO := fun w => Crc.open_any s w hs
  have hD0 : DBox (w.alloc (.cells #[.int .i64 0, .slice none 0 0, .slice none 0 0] 25)) w.heap.size 0 (.slice none 0 0) (.slice none 0 0) := DBox.new w _ _ _
  have hb0 := Vals.one_new (w := w) (.cells #[.int .i64 0, .slice none 0 0, .slice none 0 0] 25)
  cases ho : CrcMath.open_ s.data.toList with
  | none =>
    have hg := get_sum ho
    have hc : Crc.code s.data.toList = 400 := by unfold Crc.code; rw [ho]; rfl
    rw [hc] at hO
    have HO := Lib.hid hO; clear hO
    have HG := Lib.hid hg; clear hg hc ho
    have HD := Lib.hid hD0; clear hD0
    have HB := Lib.hid hb0; clear hb0
    go_enter Tryz.func15, Tryz.ntmps15
    go_wp2_with (first
      | (go_at_call 41; (with_reducible refine (HO.out _).mono ?_); rintro e w2 ⟨rfl, hb2⟩; have hD2 := HD.out.below hb2)
      | (refine wpList_store_data rfl (.tmp 2) (.tmp 21) rfl w.heap.size 0 0 none none none none 0 0 0 0 0 0 0 0 rfl rfl hD2 ?_; intro wq hDq hgq hsq))
    exact ret_data hDq rfl rfl rfl (post_none HG.out rfl ((bthen HB.out hb2 (Nat.le_refl _)).grown hgq (Below.size (bthen HB.out hb2 (Nat.le_refl _))) (fun j hj => by cases hj; exact Nat.le_refl _)))
  | some b =>
    have hc : Crc.code s.data.toList = 0 := by unfold Crc.code; rw [ho]; rfl
    have hop : Crc.opened s.data.toList = b := by unfold Crc.opened; rw [ho]; rfl
    rw [hc, hop] at hO
    clear hc hop
    have hbl := open_len ho
    have hsl : s.data.toList.length = s.size := by simp
    have hH := fun w => hasPrefix_any (str b) w
    rw [str_list] at hH
    have HO := Lib.hid hO; clear hO
    have HD := Lib.hid hD0; clear hD0
    have HB := Lib.hid hb0; clear hb0
    by_cases hp : b.take 3 = magic
    · rw [decide_eq_true hp] at hH
      have hb3 : 3 ≤ b.length := by have := congrArg List.length hp; simp [magic] at this; omega
      have ok0 : OkR ⟨b, 3, false⟩ := ⟨hb3, by show b.length ≤ maxReach; omega⟩
      have hdec : decF decP b = match (rdCols decP (rdNum 12 (rdNum 4096 ⟨b, 3, false⟩).2).1 (rdNum 12 (rdNum 4096 ⟨b, 3, false⟩).2).2).1 with
          | none => none
          | some cs => some (datOf (rdNum 4096 ⟨b, 3, false⟩).1 cs) := if_pos hp
      have hN1 : ∀ g w, Rdr 88 w g ⟨b, 3, false⟩ → Calls Tryz.prog 43 #[.pointer (some ⟨g, 0, none⟩), .int .i64 4096] w fun e w' => e = .returned (.int .i64 ((rdNum 4096 ⟨b, 3, false⟩).1 : Nat)) ∧ Rdr 88 w' g (rdNum 4096 ⟨b, 3, false⟩).2 ∧ w.grownBy w' (some g) := fun g w h => num_any g 4096 ⟨b, 3, false⟩ w h ok0
      have hn1 := rdNum_le 4096 ⟨b, 3, false⟩
      have ok1 := rdNum_okR (m := 4096) ok0
      have hbx : ∀ w2 : World, Rdr 88 (w2.alloc (.cells #[.string (str b), .int .i64 3, .bool false] 88)) w2.heap.size ⟨b, 3, false⟩ := fun w2 => heap_alloc_new w2 _
      generalize rdNum 4096 ⟨b, 3, false⟩ = X at *
      obtain ⟨n1, r1⟩ := X
      simp only [] at hdec hN1 hn1 ok1
      have hN2 : ∀ g w, Rdr 88 w g r1 → Calls Tryz.prog 43 #[.pointer (some ⟨g, 0, none⟩), .int .i64 12] w fun e w' => e = .returned (.int .i64 ((rdNum 12 r1).1 : Nat)) ∧ Rdr 88 w' g (rdNum 12 r1).2 ∧ w.grownBy w' (some g) := fun g w h => num_any g 12 r1 w h ok1
      have hn2 := rdNum_le 12 r1
      have ok2 := rdNum_okR (m := 12) ok1
      generalize rdNum 12 r1 = X at *
      obtain ⟨n2, r2⟩ := X
      simp only [] at hdec hN2 hn2 ok2
      have HDEC := Lib.hid (And.intro ho (And.intro hdec ok2)); clear hdec ho ok2 ok1 ok0 hp hb3
      generalize (⟨b, 3, false⟩ : Rd) = r0 at *
      have HH := Lib.hid hH; clear hH
      have HN1 := Lib.hid hN1; clear hN1
      have HN2 := Lib.hid hN2; clear hN2
      have HBX := Lib.hid hbx; clear hbx
      go_enter Tryz.func15, Tryz.ntmps15
      go_wp2_with (first
        | (go_at_call 41; (with_reducible refine (HO.out _).mono ?_); rintro e w2 ⟨rfl, hb2⟩; have hD2 := HD.out.below hb2; have hbt := bthen HB.out hb2 (Nat.le_refl _); have HR0 := Lib.hid (HBX.out w2); have hz2 := hb2.size)
        | (go_at_call 42; (refine (HH.out _).mono ?_); rintro e w' ⟨rfl, rfl⟩)
        | (go_at_call 43; (with_reducible refine (HN1.out _ _ HR0.out).mono ?_); rintro e w3 ⟨rfl, hR, hg3⟩; have HR3 := Lib.hid (Rdr.alloc hR (.cells #[.int .i64 (n1 : Nat), .slice none 0 0, .slice none 0 0] 25)); have hz3 := hg3.size; clear hR)
        | (go_at_call 43; (with_reducible refine (HN2.out _ _ HR3.out).mono ?_); rintro e w4 ⟨rfl, hR, hg4⟩; have HR4 := Lib.hid hR; have hz4 := hg4.size; clear hR))
      have hbA := (hb2.alloc hz2 (.cells #[.string (str b), .int .i64 3, .bool false] 88)).grown hg3 (Below.size (hb2.alloc hz2 (.cells #[.string (str b), .int .i64 3, .bool false] 88))) (fun j hj => by cases hj; exact hz2)
      have hbC := (hbA.alloc hbA.size (.cells #[.int .i64 (n1 : Nat), .slice none 0 0, .slice none 0 0] 25)).grown hg4 (Below.size (hbA.alloc hbA.size (.cells #[.int .i64 (n1 : Nat), .slice none 0 0, .slice none 0 0] 25))) (fun j hj => by cases hj; exact hz2)
      have hgr : w2.heap.size < w3.heap.size := by simp at hz3; omega
      have hDx : DBox w4 w3.heap.size (n1 : Nat) (.slice none 0 0) (.slice none 0 0) := (DBox.new w3 (n1 : Nat) (.slice none 0 0) (.slice none 0 0)).grown hg4 (fun e => by injection e with e; omega)
      have hmid : Mid w4 (w.alloc (.cells #[.int .i64 0, .slice none 0 0, .slice none 0 0] 25)).heap.size w2.heap.size w3.heap.size r2 (n1 : Nat) (.slice none 0 0) (.slice none 0 0) [] [] := ⟨HR4.out, hDx, OwnG.nil _ _ _ _ _, OwnG.nil _ _ _ _ _, by simp, rfl⟩
      have hg7B : (w.alloc (.cells #[.int .i64 0, .slice none 0 0, .slice none 0 0] 25)).heap.size ≤ w3.heap.size := by have := hbA.size; omega
      have hw0 : w.heap.size < (w.alloc (.cells #[.int .i64 0, .slice none 0 0, .slice none 0 0] 25)).heap.size := by simp
      generalize w.alloc (.cells #[.int .i64 0, .slice none 0 0, .slice none 0 0] 25) = W0 at *
      have HM := Lib.hid (And.intro hmid hbC); clear hmid hbC hbA hg3 hg4 HR0 HR3 HR4 hDx hD2 hbt HO HH HN1 HN2 HBX
      clear hb2
      generalize w2.heap.size = gr at *
      generalize w3.heap.size = g7 at *
      go_loopw [35] (fun iv wr => ∃ (q : Nat) (AC : Option Addr) (cC : Nat) (AV : Option Addr) (cV : Nat) (cs : List (Colm × List Val)) (rs : List RowA), q ≤ n2 ∧ iv = .int .i64 q ∧ (rdCols decP q r2).1 = some cs ∧ Mid wr W0.heap.size gr g7 (rdCols decP q r2).2 (n1 : Nat) (.slice AC q cC) (.slice AV q cV) cs rs ∧ Below W0.heap.size W0 wr) (fun iv _ => n2 - (intOf iv).toNat)
      case atStart => exact ⟨0, none, 0, none, 0, [], [], Nat.zero_le _, rfl, rfl, HM.out.1, HM.out.2⟩
      case round =>
        clear HM
        obtain ⟨q, AC, cC, AV, cV, cs, rs, hq, rfl, hcs, hmid, hb⟩ := hrel
        obtain ⟨hcl, hcf⟩ := rdCols_fine hcs
        by_cases hlt : q < n2
        · have ok3 := rdCols_okR (dec := decP) q HDEC.out.2.2
          have hstep := rdCols_next (dec := decP) hcs
          have hno : (rdCols decP (q + 1) r2).1 = none → fdat s = noDat ∧ fcode s = 1100 := fun h => by
            have h2 := rdCols_none h (n2 - (q + 1))
            rw [show q + 1 + (n2 - (q + 1)) = n2 by omega] at h2
            refine get_form HDEC.out.1 ?_
            rw [HDEC.out.2.1, h2]
          have hcd : rdCol decP (rdCols decP q r2).2 = (if (rdBytes (rdNum 65536 (rdByte (rdNum 9223372036854775807 (rdCols decP q r2).2).2).2).1 (rdNum 65536 (rdByte (rdNum 9223372036854775807 (rdCols decP q r2).2).2).2).2).2.bad = true ∨ (unvec decP ((rdByte (rdNum 9223372036854775807 (rdCols decP q r2).2).2).1 : Int) (rdBytes (rdNum 65536 (rdByte (rdNum 9223372036854775807 (rdCols decP q r2).2).2).2).1 (rdNum 65536 (rdByte (rdNum 9223372036854775807 (rdCols decP q r2).2).2).2).2).1).2 ≠ 0
              then (none, (rdBytes (rdNum 65536 (rdByte (rdNum 9223372036854775807 (rdCols decP q r2).2).2).2).1 (rdNum 65536 (rdByte (rdNum 9223372036854775807 (rdCols decP q r2).2).2).2).2).2)
              else (some (⟨((rdNum 9223372036854775807 (rdCols decP q r2).2).1 : Int), ByteArray.empty, ((rdByte (rdNum 9223372036854775807 (rdCols decP q r2).2).2).1 : Int)⟩, (unvec decP ((rdByte (rdNum 9223372036854775807 (rdCols decP q r2).2).2).1 : Int) (rdBytes (rdNum 65536 (rdByte (rdNum 9223372036854775807 (rdCols decP q r2).2).2).2).1 (rdNum 65536 (rdByte (rdNum 9223372036854775807 (rdCols decP q r2).2).2).2).2).1).1), (rdBytes (rdNum 65536 (rdByte (rdNum 9223372036854775807 (rdCols decP q r2).2).2).2).1 (rdNum 65536 (rdByte (rdNum 9223372036854775807 (rdCols decP q r2).2).2).2).2).2)) := rfl
          rw [hcd] at hstep
          clear hcd
          generalize (rdCols decP q r2).2 = rq at *
          have hC1 : ∀ w, Rdr 88 w gr rq → Calls Tryz.prog 43 #[.pointer (some ⟨gr, 0, none⟩), .int .i64 9223372036854775807] w fun e w' => e = .returned (.int .i64 ((rdNum 9223372036854775807 rq).1 : Nat)) ∧ Rdr 88 w' gr (rdNum 9223372036854775807 rq).2 ∧ w.grownBy w' (some gr) := fun w h => num_any gr 9223372036854775807 rq w h ok3
          have hi1 := rdNum_le 9223372036854775807 rq
          have ok4 := rdNum_okR (m := 9223372036854775807) ok3
          generalize rdNum 9223372036854775807 rq = X at *
          obtain ⟨idn, ra⟩ := X
          simp only [] at hC1 hi1 ok4 hstep
          have hC2 : ∀ w, Rdr 88 w gr ra → Calls Tryz.prog 44 #[.pointer (some ⟨gr, 0, none⟩)] w fun e w' => e = .returned (.int .i64 ((rdByte ra).1 : Nat)) ∧ Rdr 88 w' gr (rdByte ra).2 ∧ w.grownBy w' (some gr) := fun w h => byte_any gr ra w h ok4
          have ok5 := rdByte_okR ok4
          have hi2 := rdByte_lt ra
          generalize rdByte ra = X at *
          obtain ⟨kn, rb⟩ := X
          simp only [] at hC2 ok5 hi2 hstep
          have hC3 : ∀ w, Rdr 88 w gr rb → Calls Tryz.prog 43 #[.pointer (some ⟨gr, 0, none⟩), .int .i64 65536] w fun e w' => e = .returned (.int .i64 ((rdNum 65536 rb).1 : Nat)) ∧ Rdr 88 w' gr (rdNum 65536 rb).2 ∧ w.grownBy w' (some gr) := fun w h => num_any gr 65536 rb w h ok5
          have hi3 := rdNum_le 65536 rb
          have ok6 := rdNum_okR (m := 65536) ok5
          generalize rdNum 65536 rb = X at *
          obtain ⟨m, rc⟩ := X
          simp only [] at hC3 hi3 ok6 hstep
          have hC4 : ∀ w, Rdr 88 w gr rc → Calls Tryz.prog 46 #[.pointer (some ⟨gr, 0, none⟩), .int .i64 (m : Nat)] w fun e w' => e = .returned (.string (str (rdBytes m rc).1)) ∧ Rdr 88 w' gr (rdBytes m rc).2 ∧ w.grownBy w' (some gr) := fun w h => bytes_any gr m rc w h ok6 (by omega)
          have hi4 := rdBytes_le (n := m) (r := rc)
          generalize rdBytes m rc = X at *
          obtain ⟨bts, rd⟩ := X
          simp only [] at hC4 hi4 hstep
          have hC5 := fun w => Vec.get_any (kn : Int) (str bts) w (by rw [str_size]; unfold maxReach; omega)
          have hgv : gvals (kn : Int) (str bts) = (unvec decP (kn : Int) bts).1 := by unfold gvals; rw [str_list]
          have hgc : gcode (kn : Int) (str bts) = ((unvec decP (kn : Int) bts).2 : Nat) := by unfold gcode; rw [str_list]
          rw [hgv, hgc] at hC5
          have hfin := unvec_fine (kn : Int) bts
          generalize unvec decP (kn : Int) bts = X at *
          obtain ⟨vs, cd⟩ := X
          simp only [] at hC5 hstep hfin
          clear hgv hgc ok3 ok4 ok5 ok6
          generalize str bts = BT at *
          have HC1 := Lib.hid hC1; clear hC1
          have HC2 := Lib.hid hC2; clear hC2
          have HC3 := Lib.hid hC3; clear hC3
          have HC4 := Lib.hid hC4; clear hC4
          have HC5 := Lib.hid hC5; clear hC5
          have HST := Lib.hid (And.intro hstep (And.intro hno (And.intro hcs (And.intro hcf hfin)))); clear hstep hno hcs hcf hfin
          have HMD := Lib.hid hmid; clear hmid
          have HBB := Lib.hid hb; clear hb
          have hgrl := HMD.out.rd.lt
          go_wp2_with (first
            | (go_at_call 43; (with_reducible refine (HC1.out _ HMD.out.rd).mono ?_); rintro e wa ⟨rfl, hR, hga⟩; replace HBB := Lib.hid (Below.grown HBB.out hga (Below.size HBB.out) (fun j hj => by cases hj; exact hz2)); replace HMD := Lib.hid (HMD.out.read hR hga); clear hR hga)
            | (go_at_call 44; (with_reducible refine (HC2.out _ HMD.out.rd).mono ?_); rintro e wb ⟨rfl, hR, hgb⟩; replace HBB := Lib.hid (Below.grown HBB.out hgb (Below.size HBB.out) (fun j hj => by cases hj; exact hz2)); replace HMD := Lib.hid (HMD.out.read hR hgb); clear hR hgb))
          have hcb : CBox (wb.alloc (.cells #[.int .i64 (idn : Nat), .string { data := #[] }, .int .i64 (kn : Nat)] 63)) wb.heap.size ⟨(idn : Int), ByteArray.empty, (kn : Int)⟩ := CBox.new wb ⟨(idn : Int), ByteArray.empty, (kn : Int)⟩
          have hon := Vals.one_new (w := wb) (.cells #[.int .i64 (idn : Nat), .string { data := #[] }, .int .i64 (kn : Nat)] 63)
          have hgrb : gr < wb.heap.size := HMD.out.rd.lt
          have hg7b : g7 < wb.heap.size := HMD.out.box.lt
          go_upto_region 11 with fail
          replace HMD := Lib.hid (HMD.out.below hon)
          replace HBB := Lib.hid (bthen HBB.out hon (Nat.le_refl _))
          generalize hW1 : wb.alloc (.cells #[.int .i64 (idn : Nat), .string { data := #[] }, .int .i64 (kn : Nat)] 63) = W1 at *
          generalize wb.heap.size = g8 at *
          clear hW1 hon
          obtain ⟨u0, u1, u2⟩ := hcb.cells
          simp only [] at u0 u1 u2
          have hMd := HMD.out.below (below_drewN (Below.refl W1.heap.size W1) 1)
          have hRd0 : Rdr 88 W1.drew gr rb := HMD.out.rd.drew
          have HRD0 := Lib.hid hRd0; clear hRd0
          have HCB := Lib.hid hcb; clear hcb hMd
          have hCx := HCB.out
          have hSA := u2
          go_region_held3 (fun w' => w'.cell? ⟨g8, 2, none⟩ = some (.int .i64 (kn : Nat)))
            (first | go_keep | exact hCx.cells.2.2)
            ((first
              | (go_at_call 43; (with_reducible refine (HC3.out _ HRD0.out).mono ?_); rintro e wc ⟨rfl, hR, hgc⟩; have hCx := CBox.grown HCB.out.drew hgc (fun e => by injection e with e; omega); have HRD1 := Lib.hid hR; have hgc1 := hgc; clear hR)
              | (go_at_call 46; (with_reducible refine (HC4.out _ HRD1.out).mono ?_); rintro e wd ⟨rfl, hR, hgd⟩; have hCx := CBox.grown hCx hgd (fun e => by injection e with e; omega); have HRD2 := Lib.hid hR; clear hR)
              | (go_at_call 45; (with_reducible refine (HC5.out _).mono ?_); rintro e we ⟨u9, rfl, hV, hbe⟩; have hCx := hCx.below hbe)))
          have hM3 := (HMD.out.drew.read HRD1.out hgc).read HRD2.out hgd
          have hM4 := hM3.below hbe
          have hBe0 := Below.drew HBB.out
          have hBe1 := hBe0.grown hgc (Below.size hBe0) (fun j hj => by cases hj; exact hz2)
          have hBe2 := Below.grown hBe1 hgd (Below.size hBe1) (fun j hj => by cases hj; exact hz2)
          have hBe := bthen hBe2 hbe (Nat.le_refl _)
          have hDe := HD.out.below hBe
          have hV2 : OwnV we W0.heap.size u9 vs := own_le hV (Below.size hBe2)
          obtain ⟨A9, c9, rfl, _, hc9⟩ := hV2.form' (n := vs.length) rfl
          clear hBe0 hSA u0 u1 u2 HMD HBB HRD0 HRD1 HRD2 HCB hM3 hBe1 hBe2 hV hgc hgd hgc1 hbe
          obtain ⟨y0, y1, y2⟩ := hM4.rd.cells
          by_cases hbd : rd.bad = true
          · rw [hbd] at y2
            go_wp2_with (refine wpList_store_data rfl (.tmp 2) (.tmp 60) rfl w.heap.size 0 0 none none none none 0 0 0 0 0 0 0 0 rfl rfl hDe ?_; intro wq hDq hgq hsq)
            exact ret_data hDq rfl rfl rfl (post_none (HST.out.2.1 (by rw [HST.out.1, if_pos (.inl hbd)]; rfl)) rfl ((bthen HB.out hBe (Nat.le_refl _)).grown hgq (Below.size (bthen HB.out hBe (Nat.le_refl _))) (fun j hj => by cases hj; exact Nat.le_refl _)))
          · have hbf : rd.bad = false := by simpa using hbd
            rw [hbf] at y2
            by_cases hcd : cd = 0
            · subst hcd
              have hx : ¬ (rd.bad = true ∨ (0 : Nat) ≠ 0) := by rw [hbf]; simp
              obtain ⟨x0, x1, x2⟩ := hM4.box.cells
              obtain ⟨u0, u1, u2⟩ := hCx.cells
              simp only [] at u0 u1 u2
              have hM5 := hM4.own.rows
              have HXX := Lib.hid hx; clear hx hbd hbf
              have hll : (cs.map (·.1)).length + 1 ≤ maxLen ∧ ((cs.map (·.1)).length + 1) * 32 ≤ 140737488355328 := by rw [List.length_map, hcl]; unfold maxLen; omega
              have hrl : rs.length = q := by have := congrArg List.length hM4.own.eq; simp at this; omega
              have hlr : rs.length + 1 ≤ maxLen ∧ (rs.length + 1) * 24 ≤ 140737488355328 := by rw [hrl]; unfold maxLen; omega
              have hcl1 : (cs.map (·.1) ++ [(⟨(idn : Int), ByteArray.empty, (kn : Int)⟩ : Colm)]).length = q + 1 := by simp [hcl]
              have HL := Lib.hid (And.intro hll (And.intro hlr (And.intro hrl hcl1))); clear hll hlr hrl hcl hcl1 hi1 hi2 hi3 hi4 hc9 hz3 hz4
              have HM4 := Lib.hid hM4; clear hM4 hM5
              have HV2 := Lib.hid hV2; clear hV2
              have hBes := Below.size hBe
              have hrl12 : rs.length ≤ 12 := by have := HL.out.2.2.1; omega
              have hcl12 : (cs.map (·.1)).length ≤ 12 := by have := HL.out.2.2.2; simp at this; simp; omega
              go_upto_region 14 with fail
              go_wp2_with (first
                | (at_builtin; refine wpList_push_col rfl (.tmp 62) (.tmp 64) rfl W0.heap.size (.slice AC q cC) (cs.map (·.1)) (idn : Int) (kn : Int) ByteArray.empty we.heap.size 1 we rfl rfl rfl rfl HM4.out.own.cols hcl12 hBes ?_; intro uc wA hA hgA hatA; obtain ⟨A2, c2, rfl, _, _⟩ := OwnG.form hA HL.out.2.2.2; have hbA := dbox_keep (HM4.out.box.alloc _) (OwnG.alloc HM4.out.own.cols _) (by decide) hgA; have d1 := hbA.cells.2.1; have d2 := hbA.cells.2.2; have f1 := hbA.free 1; have hMC := Mid.col HM4.out.rd HM4.out.box HM4.out.own hA hgA; have hBA := (Below.alloc hBe hBes (.cells #[.int .i64 (idn : Int), .string ByteArray.empty, .int .i64 (kn : Int)] 63)).grown hgA (Below.size (Below.alloc hBe hBes (.cells #[.int .i64 (idn : Int), .string ByteArray.empty, .int .i64 (kn : Int)] 63))) (own_base HM4.out.own.cols); have hVA : OwnV wA W0.heap.size (.slice A9 vs.length c9) vs := World.ownsRow.kept (HV2.out.alloc _) hgA (own_ne (HV2.out.alloc (.cells #[.int .i64 (idn : Int), .string ByteArray.empty, .int .i64 (kn : Int)] 63)) (OwnG.alloc HM4.out.own.cols _) (by decide)); have hVB : OwnV (wA.setCell ⟨g7, 1, none⟩ (.slice A2 (q + 1) c2)) W0.heap.size (.slice A9 vs.length c9) vs := own_drop hVA hbA (by decide); have HMC := Lib.hid (And.intro hMC (And.intro hBA hVB)); clear hA hatA hMC hbA hBA hVA hVB x0 x1 x2 u0 u1 u2 y0 y1 y2)
                | (at_builtin; have hBB2 := HMC.out.2.1.setCell (p := ⟨g7, 1, none⟩) hg7B (.slice A2 (q + 1) c2); have hBX := Below.size hBB2; refine wpList_push_row rfl (.tmp 68) (.tmp 71) rfl W0.heap.size (.slice AV q cV) rs ⟨A9, vs.length, c9, vs⟩ wA.heap.size 1 (wA.setCell ⟨g7, 1, none⟩ (.slice A2 (q + 1) c2)) rfl rfl rfl (by simp) HMC.out.1.2.2.2.1 hrl12 hBX ?_; intro ur wB hA hgB hatB; obtain ⟨A3, c3, rfl, _, _⟩ := OwnG.form hA (n := q + 1) (by have := HL.out.2.2.1; simp; omega); have hbB := dbox_keep (HMC.out.1.2.1.alloc _) (OwnG.alloc HMC.out.1.2.2.2.1 _) (by decide) hgB; have f2 := hbB.free 2; have e2 := hbB.cells.2.2; have hMR := Mid.row HMC.out.1.1 HMC.out.1.2.1 HMC.out.1.2.2.1 HMC.out.1.2.2.2.1 HMC.out.1.2.2.2.2 (r1 := ⟨A9, vs.length, c9, vs⟩) HMC.out.2.2 hA hgB; have hBB3 := (Below.alloc hBB2 hBX (.cells #[.slice A9 vs.length c9] 67)).grown hgB (Below.size (Below.alloc hBB2 hBX (.cells #[.slice A9 vs.length c9] 67))) (own_base HMC.out.1.2.2.2.1); have HMR := Lib.hid (And.intro hMR hBB3); clear hA hatB hMR hbB hBB3 d1 d2 f1))
              have hnx : rdCols decP (q + 1) r2 = (some (cs ++ [(⟨(idn : Int), ByteArray.empty, (kn : Int)⟩, vs)]), rd) := by rw [HST.out.1, if_neg HXX.out]; rfl
              have HNX := Lib.hid hnx; clear hnx
              have hBB4 := HMR.out.2.setCell (p := ⟨g7, 2, none⟩) hg7B (.slice A3 (q + 1) c3)
              go_roundw
              case rel =>
                refine ⟨q + 1, A2, c2, A3, c3, cs ++ [(⟨(idn : Int), ByteArray.empty, (kn : Int)⟩, vs)], rs ++ [⟨A9, vs.length, c9, vs⟩], by omega, by go_num, by rw [HNX.out], ?_, hBB4⟩
                rw [HNX.out]
                refine ⟨HMR.out.1.1, HMR.out.1.2.1, ?_, HMR.out.1.2.2.2.1, HMR.out.1.2.2.2.2, ?_⟩
                · have := HMR.out.1.2.2.1
                  simpa using this
                · have := HM4.out.own.eq
                  simp at this
                  simp [this]
              case measure => simp [intOf]; omega
            · have hne : ((((cd : Nat) : Int)) != 0) = true := by simp; omega
              go_wp2_with (refine wpList_store_data rfl (.tmp 2) (.tmp 60) rfl w.heap.size 0 0 none none none none 0 0 0 0 0 0 0 0 rfl rfl hDe ?_; intro wq hDq hgq hsq)
              exact ret_data hDq rfl rfl rfl (post_none (HST.out.2.1 (by rw [HST.out.1, if_pos (.inr hcd)]; rfl)) rfl ((bthen HB.out hBe (Nat.le_refl _)).grown hgq (Below.size (bthen HB.out hBe (Nat.le_refl _))) (fun j hj => by cases hj; exact Nat.le_refl _)))
        · obtain rfl : n2 = q := by omega
          have hdecf : decF decP b = some ⟨(n1 : Int), cs.map (·.1), cs.map (·.2)⟩ := by rw [HDEC.out.2.1, hcs]; rfl
          have hin := OwnD.in_ (nC := n2) (nV := n2) hmid.own hcf hn1 (by omega) hcl hcl
          have hP := fun w h => File.put_any ⟨(n1 : Int), cs.map (·.1), cs.map (·.2)⟩ AC AV n2 cC n2 cV rs w h
          have hgg := fun h => get_good (s := s) HDEC.out.1 hdecf h
          have hgw := fun h => get_worse (s := s) HDEC.out.1 hdecf h
          have hDr := HD.out.below hb
          obtain ⟨x0, x1, x2⟩ := hmid.box.cells
          have HMD := Lib.hid hmid; clear hmid
          have HIN := Lib.hid hin; clear hin hdecf hcs hcf hcl
          generalize hdd : (⟨(n1 : Int), cs.map (·.1), cs.map (·.2)⟩ : Dat) = dd at *
          have hrows : dd.rows = (n1 : Int) := by rw [← hdd]
          rw [hrows] at hP
          by_cases hok : fileOk dd ∧ filePut dd = s.data.toList
          · have hg := hgg hok
            have he : fileErr dd = 0 := by unfold fileErr; rw [if_pos hok.1]
            rw [hok.2, he, str_self] at hP
            have HG := Lib.hid (And.intro hg (And.intro hrows hdd)); clear hg hrows hdd hgg hgw hok he
            have HP := Lib.hid hP; clear hP
            go_wp2_with (first
              | (go_at_call 6; (with_reducible refine (HP.out _ HIN.out).mono ?_); rintro e w5 ⟨rfl, hb5⟩; have hD5 := hDr.below hb5; have hM5 := HMD.out.below hb5; have z0 := hM5.box.cells; obtain ⟨z0, z1, z2⟩ := z0; clear x0 x1 x2)
              | (refine wpList_store_data rfl (.tmp 2) (.tmp 88) rfl w.heap.size (n1 : Int) 0 AC AV none none n2 n2 0 0 cC cV 0 0 rfl rfl hD5 ?_; intro wq hDq hgq hsq))
            have hOw := (OwnD.base (B := w.heap.size) hM5.own (Nat.le_of_lt hw0)).keep hD5 hgq
            rw [HG.out.2.2] at hOw
            have hBq := (bthen HB.out (bthen hb hb5 (Nat.le_refl _)) (Nat.le_refl _)).grown hgq (Below.size (bthen HB.out (bthen hb hb5 (Nat.le_refl _)) (Nat.le_refl _))) (fun j hj => by cases hj; exact Nat.le_refl _)
            exact ret_data hDq rfl rfl rfl ⟨AC, n2, cC, AV, n2, cV, rs, by rw [HG.out.1.1, HG.out.1.2, HG.out.2.1]; rfl, by rw [HG.out.1.1]; exact hOw, hBq⟩
          · have hg := hgw hok
            by_cases hf : fileErr dd = 0
            · have hne : ((str (filePut dd)).toList == s.toList) = false := str_ne (fun e => hok ⟨err_zero hf, e⟩)
              rw [hf] at hP
              generalize str (filePut dd) = Z at *
              have HG := Lib.hid hg; clear hg hrows hdd hgg hgw hok hf
              have HP := Lib.hid hP; clear hP
              go_wp2_with (first
                | (go_at_call 6; (with_reducible refine (HP.out _ HIN.out).mono ?_); rintro e w5 ⟨rfl, hb5⟩; have hD5 := hDr.below hb5; clear x0 x1 x2)
                | (refine wpList_store_data rfl (.tmp 2) (.tmp 87) rfl w.heap.size 0 0 none none none none 0 0 0 0 0 0 0 0 rfl rfl hD5 ?_; intro wq hDq hgq hsq))
              exact ret_data hDq rfl rfl rfl (post_none HG.out rfl ((bthen HB.out (bthen hb hb5 (Nat.le_refl _)) (Nat.le_refl _)).grown hgq (Below.size (bthen HB.out (bthen hb hb5 (Nat.le_refl _)) (Nat.le_refl _))) (fun j hj => by cases hj; exact Nat.le_refl _)))
            · have hne : (((fileErr dd : Nat) : Int) != 0) = true := by simp; omega
              generalize ((fileErr dd : Nat) : Int) = E at *
              generalize str (filePut dd) = Z at *
              have HG := Lib.hid hg; clear hg hrows hdd hgg hgw hok hf
              have HP := Lib.hid hP; clear hP
              go_wp2_with (first
                | (go_at_call 6; (with_reducible refine (HP.out _ HIN.out).mono ?_); rintro e w5 ⟨rfl, hb5⟩; have hD5 := hDr.below hb5; clear x0 x1 x2)
                | (refine wpList_store_data rfl (.tmp 2) (.tmp 87) rfl w.heap.size 0 0 none none none none 0 0 0 0 0 0 0 0 rfl rfl hD5 ?_; intro wq hDq hgq hsq))
              exact ret_data hDq rfl rfl rfl (post_none HG.out rfl ((bthen HB.out (bthen hb hb5 (Nat.le_refl _)) (Nat.le_refl _)).grown hgq (Below.size (bthen HB.out (bthen hb hb5 (Nat.le_refl _)) (Nat.le_refl _))) (fun j hj => by cases hj; exact Nat.le_refl _)))
    · rw [decide_eq_false hp] at hH
      have hg := get_form ho (show decF decP b = none from if_neg hp)
      have HG := Lib.hid hg; clear hg ho hp
      have HH := Lib.hid hH; clear hH
      go_enter Tryz.func15, Tryz.ntmps15
      go_wp2_with (first
        | (go_at_call 41; (with_reducible refine (HO.out _).mono ?_); rintro e w2 ⟨rfl, hb2⟩; have hD2 := HD.out.below hb2)
        | (go_at_call 42; (refine (HH.out _).mono ?_); rintro e w' ⟨rfl, rfl⟩)
        | (refine wpList_store_data rfl (.tmp 2) (.tmp 26) rfl w.heap.size 0 0 none none none none 0 0 0 0 0 0 0 0 rfl rfl hD2 ?_; intro wq hDq hgq hsq))
      exact ret_data hDq rfl rfl rfl (post_none HG.out rfl ((bthen HB.out hb2 (Nat.le_refl _)).grown hgq (Below.size (bthen HB.out hb2 (Nat.le_refl _))) (fun j hj => by cases hj; exact Nat.le_refl _)))
end Go.Proofs.YtgmemdedpklnhaaGreat.File

/-
  THE WALK of colfile.Stats.
-/

namespace Go.Proofs.YtgmemdedpklnhaaGreat.File
open Go.RowKit ValMath Vals Sl VecMath Vec Dat

theorem unfile_none {s : ByteArray} (h : fcode s ≠ 0) : fdat s = noDat := by
  unfold fcode at h
  have h0 : (unfile decP s.data.toList).2 ≠ 0 := fun e => h (by rw [e]; rfl)
  unfold fdat; rw [unfile_bad h0]
theorem unfile_ok {s : ByteArray} (h : fcode s = 0) : fileOk (fdat s) ∧ str (filePut (fdat s)) = s := by
  unfold fcode at h
  have h0 : (unfile decP s.data.toList).2 = 0 := by omega
  have := unfile_good (dec := decP) (s := s.data.toList) (d := (unfile decP s.data.toList).1) (by rw [← h0])
  exact ⟨this.1, by unfold fdat; rw [this.2, str_self]⟩
/-- What was read out of bytes is fine. -/
theorem unfile_fine {s : ByteArray} (h : fcode s = 0) : ∃ (n1 : Nat) (cs : List (Colm × List Val)), fdat s = ⟨(n1 : Int), cs.map (·.1), cs.map (·.2)⟩ ∧ n1 ≤ 4096 ∧ cs.length ≤ 12 ∧ ∀ p ∈ cs, FineP p := by
  unfold fcode at h
  have h0 : (unfile decP s.data.toList).2 = 0 := by omega
  unfold fdat
  unfold unfile at h0 ⊢
  cases ho : CrcMath.open_ s.data.toList with
  | none => rw [ho] at h0; cases h0
  | some b =>
    rw [ho] at h0
    simp only [] at h0 ⊢
    cases hd : decF decP b with
    | none => rw [hd] at h0; cases h0
    | some d =>
      rw [hd] at h0
      simp only [] at h0 ⊢
      split
      · unfold decF at hd
        split at hd
        · split at hd
          · cases hd
          · rename_i cs hcs
            injection hd with hd; subst hd
            obtain ⟨h1, h2⟩ := rdCols_fine hcs
            have h3 := rdNum_le 12 (rdNum 4096 ⟨b, 3, false⟩).2
            exact ⟨_, cs, rfl, rdNum_le 4096 ⟨b, 3, false⟩, by omega, h2⟩
        · cases hd
      · rename_i hn; rw [if_neg hn] at h0; cases h0
set_option maxRecDepth 20000 in
set_option maxHeartbeats 4000000 in
theorem stats_any (s : ByteArray) (w : World) (hs : s.size ≤ maxReach) : Calls Tryz.prog 16 #[.string s] w fun e w' => ∃ u, e = .returned (.tuple #[u, .int .i64 (fcode s)]) ∧ OwnS w' w.heap.size u (statsOf (fdat s)) ∧ Below w.heap.size w w' := by
  have hG := fun w => get_any s w hs
  unfold GetPost at hG
  by_cases h0 : fcode s = 0
  · obtain ⟨n1, cs, hd, hn1, hcl, hfp⟩ := unfile_fine h0
    rw [h0, hd] at hG
    rw [h0, hd]
    have HG := Lib.hid hG; clear hG
    have HF := Lib.hid hfp; clear hfp hd h0
    go_enter Tryz.func16, Tryz.ntmps16
    go_wp2_with fail
    refine (HG.out _).mono ?_
    rintro e w1 ⟨AC, nC, cC, AV, nV, cV, rs, rfl, hO, hb1⟩
    have hl1 : nC = cs.length := by have := (own_len hO.cols).1; simpa using this
    have hl2 : nV = cs.length := by
      have h1 := (own_len hO.rows).1
      have h2 := congrArg List.length hO.eq
      simp at h2; omega
    subst hl1; subst hl2
    have hD : DBox (w1.alloc (.cells #[.int .i64 (n1 : Int), .slice AC cs.length cC, .slice AV cs.length cV] 25)) w1.heap.size (n1 : Int) (.slice AC cs.length cC) (.slice AV cs.length cV) := DBox.new w1 _ _ _
    have hOa := hO.below (Vals.one_new (w := w1) (.cells #[.int .i64 (n1 : Int), .slice AC cs.length cC, .slice AV cs.length cV] 25))
    have hin := OwnD.in_ hOa HF.out hn1 hcl rfl rfl
    have hT := told_any w1.heap.size _ AC AV cs.length cC cV rs _ hD hin hcl
    have HT := Lib.hid hT; clear hT hin hD hOa hO
    have HB := Lib.hid (hb1.alloc hb1.size (.cells #[.int .i64 (n1 : Int), .slice AC cs.length cC, .slice AV cs.length cV] 25)); clear hb1
    go_wp2_with fail
    refine HT.out.mono ?_
    rintro e w2 ⟨u, rfl, hS, hb2⟩
    have HS := Lib.hid hS; clear hS
    go_wp2_with fail
    go_ret2
    exact ⟨u, rfl, own_le HS.out HB.out.size, bthen HB.out hb2 (Nat.le_refl _)⟩
  · have hnd := unfile_none h0
    rw [hnd] at hG
    rw [hnd]
    have hne : (fcode s != 0) = true := by simpa using h0
    generalize fcode s = C at *
    have HG := Lib.hid hG; clear hG hnd h0
    go_enter Tryz.func16, Tryz.ntmps16
    go_wp2_with fail
    refine (HG.out _).mono ?_
    rintro e w1 ⟨AC, nC, cC, AV, nV, cV, rs, rfl, hO, hb1⟩
    clear hO
    go_wp2_with fail
    go_ret2
    exact ⟨_, rfl, OwnG.nil _ _ _ _ _, hb1.alloc hb1.size _⟩
end Go.Proofs.YtgmemdedpklnhaaGreat.File

/-
  '==' and '!=' on two Stats that are one.
-/


namespace Go.Proofs.YtgmemdedpklnhaaGreat.Stats
open Go.RowKit ValMath Vals Sl
theorem guard_stat (op : BinOp) (x y : Operand) (a b : Array Value) (W : World) : (eqGuard op 73 x y (.agg a) (.agg b)).run Tryz.prog W = .ok () W :=
  run_eqGuard_agg W op 73 x y a b (by kernel_rfl)
theorem equal_self (d : Nat) (u : Val) (W : World) : (Op.equalIn (d + 2) 71 (.agg #[.int .i64 u.k, .int .i64 u.i, .bool u.b, .string u.s]) (.agg #[.int .i64 u.k, .int .i64 u.i, .bool u.b, .string u.s])).run Tryz.prog W = .ok true W := by
  rw [equal_val]; simp
theorem equal_stat (d : Nat) (c n : Int) (mn mx : Val) (W : World) : (Op.equalIn (d + 3) 73 (sagg c n mn mx) (sagg c n mn mx)).run Tryz.prog W = .ok true W := by
  have h1 := equal_self d mn W
  have h2 := equal_self d mx W
  rw [run_equalIn_struct W (d + 2) 73 _ _ (by kernel_rfl) (by kernel_rfl)]
  go_simp
theorem eql_stat (c n : Int) (mn mx : Val) (W : World) : (binOp .eql 73 (sagg c n mn mx) (sagg c n mn mx)).run Tryz.prog W = .ok (.bool true) W := by
  rw [run_eql_struct, equal_stat 9997]; rfl
theorem neq_stat (c n : Int) (mn mx : Val) (W : World) : (binOp .neq 73 (sagg c n mn mx) (sagg c n mn mx)).run Tryz.prog W = .ok (.bool false) W := by
  rw [run_neq_struct, equal_stat 9997]; rfl
theorem field_n (c n : Int) (mn mx : Val) (w : World) : (Instr.field 73 (sagg c n mn mx) 1).run Tryz.prog w = .ok (.int .i64 n) w := by kernel_rfl
end Go.Proofs.YtgmemdedpklnhaaGreat.Stats

/-
  THE WALKS of SameColumns, SameRows, SameData, SameStats, at data that are the same.
-/


namespace Go.Proofs.YtgmemdedpklnhaaGreat.Dat
open Go.RowKit ValMath Vals Sl VecMath Stats

theorem guard_col (op : BinOp) (x y : Operand) (a b : Array Value) (W : World) : (eqGuard op 63 x y (.agg a) (.agg b)).run Tryz.prog W = .ok () W :=
  run_eqGuard_agg W op 63 x y a b (by kernel_rfl)
theorem equal_col (d : Nat) (i k : Int) (s : ByteArray) (W : World) : (Op.equalIn (d + 2) 63 (.agg #[.int .i64 i, .string s, .int .i64 k]) (.agg #[.int .i64 i, .string s, .int .i64 k])).run Tryz.prog W = .ok true W := by
  rw [run_equalIn_struct W (d + 1) 63 _ _ (by kernel_rfl) (by kernel_rfl)]
  go_simp
theorem neq_col (i k : Int) (s : ByteArray) (W : World) : (binOp .neq 63 (.agg #[.int .i64 i, .string s, .int .i64 k]) (.agg #[.int .i64 i, .string s, .int .i64 k])).run Tryz.prog W = .ok (.bool false) W := by
  rw [run_neq_struct, equal_col 9998]; rfl
theorem eql_col (i k : Int) (s : ByteArray) (W : World) : (binOp .eql 63 (.agg #[.int .i64 i, .string s, .int .i64 k]) (.agg #[.int .i64 i, .string s, .int .i64 k])).run Tryz.prog W = .ok (.bool true) W := by
  rw [run_eql_struct, equal_col 9998]; rfl

set_option maxHeartbeats 1000000 in
theorem sameColumns_any (A B : Option Addr) (n c d : Nat) (xs : List Colm) (w : World) (hx : CSl w A n xs) (hy : CSl w B n xs) (hn : n ≤ maxLen) :
    Calls Tryz.prog 38 #[.slice A n c, .slice B n d] w fun e w' => e = .returned (.bool true) ∧ ∃ k, w' = w.drewN k := by
  unfold maxLen at hn
  go_enter Tryz.func38, Tryz.ntmps38
  go_wp2
  go_loopw [5] (fun i wr => ∃ k : Nat, k ≤ n ∧ i = .int .i64 k ∧ ∃ q, wr = w.drewN q) (fun i _ => n - (intOf i).toNat)
  case atStart => exact ⟨0, Nat.zero_le _, rfl, 0, rfl⟩
  case round =>
    obtain ⟨k, hk, rfl, q, rfl⟩ := hrel
    by_cases hlt : k < n
    · obtain ⟨b1, o1, ⟨I1, N1, K1⟩, hv1, rfl, _, c0, c1, c2⟩ := CSl.at_ hx hlt
      obtain ⟨b2, o2, c', hv2, rfl, _, d0, d1, d2⟩ := CSl.at_ hy hlt
      obtain rfl : (⟨I1, N1, K1⟩ : Colm) = c' := by rw [hv1] at hv2; injection hv2
      simp only [] at c0 c1 c2 d0 d1 d2
      clear hx hy hv1 hv2
      have hq := neq_col I1 K1 N1
      have hg := fun x y W => guard_col .neq x y #[.int .i64 I1, .string N1, .int .i64 K1] #[.int .i64 I1, .string N1, .int .i64 K1] W
      go_wp2
      go_quiet (fail)
      go_wp2
      go_roundw
      case rel => exact ⟨k + 1, by omega, by go_num, _, rfl⟩
      case measure => simp [intOf]; omega
    · clear hx hy
      go_wp2
      go_ret
      exact ⟨rfl, _, rfl⟩

/-- Statistics as they are read. -/
def SSl (w : World) (A : Option Addr) (n : Nat) (ss : List Sta) : Prop :=
  ss.length = n ∧ (0 < n → ∃ b off, A = some ⟨b, off, none⟩ ∧ b < w.heap.size ∧ ∀ i (h : i < ss.length) j, j < 10 → w.cell? ⟨b, off + i * 10 + j, none⟩ = (stcells ss[i])[j]?)
theorem _root_.Go.Proofs.YtgmemdedpklnhaaGreat.OwnS.sl {w : World} {B n c : Nat} {A : Option Addr} {ss : List Sta} (h : OwnS w B (.slice A n c) ss) (hn : ss.length = n) : SSl w A n ss := by
  refine ⟨hn, fun h0 => ?_⟩
  obtain ⟨g, rfl, _, hlt, _, hc⟩ := OwnG.cells h (fun _ => rfl) rfl hn h0
  refine ⟨g, 0, rfl, hlt, fun i hi j hj => ?_⟩
  rw [Nat.zero_add]
  exact hc i hi j hj
theorem SSl.take {w : World} {A : Option Addr} {n m : Nat} {ss : List Sta} (h : SSl w A n ss) (hm : m ≤ n) : SSl w A m (ss.take m) := by
  refine ⟨by rw [List.length_take, h.1]; omega, fun hn => ?_⟩
  obtain ⟨b, off, rfl, hlt, hc⟩ := h.2 (by omega)
  refine ⟨b, off, rfl, hlt, fun i hi j hj => ?_⟩
  rw [List.length_take] at hi
  rw [List.getElem_take]
  exact hc i (by omega) j hj
theorem SSl.at_ {w : World} {A : Option Addr} {n k : Nat} {ss : List Sta} (h : SSl w A n ss) (hk : k < n) :
    ∃ b off, ∃ s : Sta, ss[k]? = some s ∧ A = some ⟨b, off, none⟩ ∧ b < w.heap.size ∧ w.cell? ⟨b, off + k * 10, none⟩ = some (.int .i64 s.c) ∧ w.cell? ⟨b, off + k * 10 + 1, none⟩ = some (.int .i64 s.n) ∧
    w.cell? ⟨b, off + k * 10 + 2, none⟩ = some (.int .i64 s.mn.k) ∧ w.cell? ⟨b, off + k * 10 + 3, none⟩ = some (.int .i64 s.mn.i) ∧ w.cell? ⟨b, off + k * 10 + 4, none⟩ = some (.bool s.mn.b) ∧ w.cell? ⟨b, off + k * 10 + 5, none⟩ = some (.string s.mn.s) ∧
    w.cell? ⟨b, off + k * 10 + 6, none⟩ = some (.int .i64 s.mx.k) ∧ w.cell? ⟨b, off + k * 10 + 7, none⟩ = some (.int .i64 s.mx.i) ∧ w.cell? ⟨b, off + k * 10 + 8, none⟩ = some (.bool s.mx.b) ∧ w.cell? ⟨b, off + k * 10 + 9, none⟩ = some (.string s.mx.s) := by
  obtain ⟨b, off, hA, hlt, hc⟩ := h.2 (by omega)
  have hkl : k < ss.length := by rw [h.1]; exact hk
  have h0 := hc k hkl
  exact ⟨b, off, ss[k], List.getElem?_eq_getElem hkl, hA, hlt, h0 0 (by omega), h0 1 (by omega), h0 2 (by omega), h0 3 (by omega), h0 4 (by omega), h0 5 (by omega), h0 6 (by omega), h0 7 (by omega), h0 8 (by omega), h0 9 (by omega)⟩
theorem SSl.below {w w' : World} {A : Option Addr} {n : Nat} {ss : List Sta} (h : SSl w A n ss) (hb : Below w.heap.size w w') : SSl w' A n ss := by
  refine ⟨h.1, fun hn => ?_⟩
  obtain ⟨b, off, rfl, hlt, hc⟩ := h.2 hn
  refine ⟨b, off, rfl, Nat.lt_of_lt_of_le hlt hb.size, fun i hi j hj => ?_⟩
  rw [hb.cell (p := ⟨b, off + i * 10 + j, none⟩) hlt]; exact hc i hi j hj

set_option maxHeartbeats 1000000 in
theorem sameStats_any (A B : Option Addr) (n c d : Nat) (xs : List Sta) (w : World) (hx : SSl w A n xs) (hy : SSl w B n xs) (hn : n ≤ maxLen) :
    Calls Tryz.prog 19 #[.slice A n c, .slice B n d] w fun e w' => e = .returned (.bool true) ∧ ∃ k, w' = w.drewN k := by
  unfold maxLen at hn
  go_enter Tryz.func19, Tryz.ntmps19
  go_wp2
  go_loopw [5] (fun i wr => ∃ k : Nat, k ≤ n ∧ i = .int .i64 k ∧ ∃ q, wr = w.drewN q) (fun i _ => n - (intOf i).toNat)
  case atStart => exact ⟨0, Nat.zero_le _, rfl, 0, rfl⟩
  case round =>
    obtain ⟨k, hk, rfl, q, rfl⟩ := hrel
    by_cases hlt : k < n
    · obtain ⟨b1, o1, ⟨C1, N1, ⟨k1, i1, B1, s1⟩, ⟨k2, i2, B2, s2⟩⟩, hv1, rfl, _, c0, c1, c2, c3, c4, c5, c6, c7, c8, c9⟩ := SSl.at_ hx hlt
      obtain ⟨b2, o2, c', hv2, rfl, _, d0, d1, d2, d3, d4, d5, d6, d7, d8, d9⟩ := SSl.at_ hy hlt
      obtain rfl : (⟨C1, N1, ⟨k1, i1, B1, s1⟩, ⟨k2, i2, B2, s2⟩⟩ : Sta) = c' := by rw [hv1] at hv2; injection hv2
      simp only [] at c0 c1 c2 c3 c4 c5 c6 c7 c8 c9 d0 d1 d2 d3 d4 d5 d6 d7 d8 d9
      clear hx hy hv1 hv2
      have hq := neq_stat C1 N1 ⟨k1, i1, B1, s1⟩ ⟨k2, i2, B2, s2⟩
      have hg := fun x y W => guard_stat .neq x y #[.int .i64 C1, .int .i64 N1, .agg #[.int .i64 k1, .int .i64 i1, .bool B1, .string s1], .agg #[.int .i64 k2, .int .i64 i2, .bool B2, .string s2]] #[.int .i64 C1, .int .i64 N1, .agg #[.int .i64 k1, .int .i64 i1, .bool B1, .string s1], .agg #[.int .i64 k2, .int .i64 i2, .bool B2, .string s2]] W
      go_wp2
      go_quiet (fail)
      go_wp2
      go_roundw
      case rel => exact ⟨k + 1, by omega, by go_num, _, rfl⟩
      case measure => simp [intOf]; omega
    · clear hx hy
      go_wp2
      go_ret
      exact ⟨rfl, _, rfl⟩

set_option maxHeartbeats 1000000 in
theorem sameRows_any (A B : Option Addr) (n c d : Nat) (rs ss : List RowA) (w : World) (hx : RSl w A n rs) (hy : RSl w B n ss) (hrx : ∀ r ∈ rs, VSl w r.A r.n r.vs) (hry : ∀ r ∈ ss, VSl w r.A r.n r.vs) (he : rs.map (·.vs) = ss.map (·.vs)) (hn : n ≤ maxLen) (hln : ∀ r ∈ rs, r.n ≤ maxLen) :
    Calls Tryz.prog 51 #[.slice A n c, .slice B n d] w fun e w' => e = .returned (.bool true) ∧ ∃ k, w' = w.drewN k := by
  unfold maxLen at hn
  have HLN := Lib.hid hln; clear hln
  go_enter Tryz.func51, Tryz.ntmps51
  go_wp2
  go_loopw [5] (fun i wr => ∃ k : Nat, k ≤ n ∧ i = .int .i64 k ∧ ∃ q, wr = w.drewN q) (fun i _ => n - (intOf i).toNat)
  case atStart => exact ⟨0, Nat.zero_le _, rfl, 0, rfl⟩
  case round =>
    obtain ⟨k, hk, rfl, q, hqe⟩ := hrel
    by_cases hlt : k < n
    · obtain ⟨b1, o1, ⟨A1, n1, c1, vs1⟩, hv1, rfl, _, c0⟩ := RSl.at_ (show RSl wr _ _ _ by rw [hqe]; exact hx) hlt
      obtain ⟨b2, o2, ⟨A2, n2, c2, vs2⟩, hv2, rfl, _, d0⟩ := RSl.at_ (show RSl wr _ _ _ by rw [hqe]; exact hy) hlt
      simp only [] at c0 d0
      have hvv : vs1 = vs2 := by
        have h1 : (rs.map (·.vs))[k]? = some vs1 := by rw [List.getElem?_map, hv1]; rfl
        have h2 : (ss.map (·.vs))[k]? = some vs2 := by rw [List.getElem?_map, hv2]; rfl
        rw [he, h2] at h1; injection h1 with h1; exact h1.symm
      subst hvv
      have h1 := hrx _ (List.mem_of_getElem? hv1)
      have h2 := hry _ (List.mem_of_getElem? hv2)
      simp only [] at h1 h2
      have hL := HLN.out _ (List.mem_of_getElem? hv1)
      simp only [] at hL
      have hS : ∀ m, Calls Tryz.prog 73 #[.slice A1 n1 c1, .slice A2 n2 c2] (wr.drewN m) fun e w' => e = .returned (.bool true) ∧ ∃ k, w' = (wr.drewN m).drewN k := fun m => by
        have := sameValues_any A1 A2 n1 n2 c1 c2 vs1 vs1 (wr.drewN m) (by rw [hqe]; exact h1) (by rw [hqe]; exact h2) hL
        rw [decide_eq_true rfl] at this; exact this
      have HQ := Lib.hid hqe; clear hqe
      have HS := Lib.hid hS; clear hS
      have HE := Lib.hid he; clear he
      have HX := Lib.hid hrx; clear hrx
      have HY := Lib.hid hry; clear hry
      clear hx hy hv1 hv2 h1 h2 hL
      go_wp2
      go_quiet ((go_at_call 73; exact Calls.quiet_of (HS.out _)))
      go_wp2
      go_roundw
      case rel => exact ⟨k + 1, by omega, by go_num, _, by rw [HQ.out, World.drewN_drewN]⟩
      case measure => simp [intOf]; omega
    · clear hx hy
      go_wp2
      go_ret
      exact ⟨rfl, q, by first | rfl | exact hqe⟩
set_option maxRecDepth 20000 in
set_option maxHeartbeats 1000000 in
/-- Data that are the same, wherever they lie. -/
theorem sameData_any (D : Int) (cols : List Colm) (AC AV BC BV : Option Addr) (nC cC nV cV dC dV : Nat) (rs ss : List RowA) (w : World) (hc1 : CSl w AC nC cols) (hc2 : CSl w BC nC cols) (hx : RSl w AV nV rs) (hy : RSl w BV nV ss) (hrx : ∀ r ∈ rs, VSl w r.A r.n r.vs) (hry : ∀ r ∈ ss, VSl w r.A r.n r.vs) (he : rs.map (·.vs) = ss.map (·.vs)) (hn1 : nC ≤ maxLen) (hn : nV ≤ maxLen) (hln : ∀ r ∈ rs, r.n ≤ maxLen) :
    Calls Tryz.prog 18 #[dagg D AC nC cC AV nV cV, dagg D BC nC dC BV nV dV] w fun e w' => e = .returned (.bool true) ∧ Below w.heap.size w w' := by
  have hb := Vals.two_new (w := w) (.cells #[.int .i64 D, .slice AC nC cC, .slice AV nV cV] 25) (.cells #[.int .i64 D, .slice BC nC dC, .slice BV nV dV] 25)
  have hC : ∀ W, Below w.heap.size w W → Calls Tryz.prog 38 #[.slice AC nC cC, .slice BC nC dC] W fun e w' => e = .returned (.bool true) ∧ ∃ k, w' = W.drewN k := fun W h => sameColumns_any AC BC nC cC dC cols W (CSl.below hc1 h) (CSl.below hc2 h) hn1
  have hR : ∀ W, Below w.heap.size w W → Calls Tryz.prog 51 #[.slice AV nV cV, .slice BV nV dV] W fun e w' => e = .returned (.bool true) ∧ ∃ k, w' = W.drewN k := fun W h => sameRows_any AV BV nV cV dV rs ss W (RSl.below hx h) (RSl.below hy h) (fun r hr => (hrx r hr).below h) (fun r hr => (hry r hr).below h) he hn hln
  have HC := Lib.hid hC; clear hC hc1 hc2
  have HR := Lib.hid hR; clear hR hx hy hrx hry he
  have HB := Lib.hid hb; clear hb hln hn hn1
  go_enter Tryz.func18, Tryz.ntmps18
  go_wp2_with (first
    | (go_at_call 38; (with_reducible refine (HC.out _ HB.out).mono ?_); rintro e w1 ⟨rfl, k1, rfl⟩; have hb1 := below_drewN HB.out k1)
    | (go_at_call 51; (with_reducible refine (HR.out _ hb1).mono ?_); rintro e w2 ⟨rfl, k2, rfl⟩; have hb2 := below_drewN hb1 k2))
  go_ret
  exact ⟨rfl, below_drewN HB.out _⟩
end Go.Proofs.YtgmemdedpklnhaaGreat.Dat

/-
  THE DATA of boathouselaw11.awake.
-/



namespace Go.Proofs.YtgmemdedpklnhaaGreat.File
open Go.RowKit ValMath Vals Sl VecMath Vec Dat

def awCol : Colm := ⟨2, ByteArray.empty, 1⟩
def awVal : Val := ⟨1, 7, false, ByteArray.empty⟩
def awD : Dat := ⟨1, [awCol], [[awVal]]⟩
def xxxxx : ByteArray := ⟨#[120, 120, 120, 120, 120]⟩
theorem aw_ok : fileOk awD := by decide +kernel
theorem aw_in64 : FileIn64 awD := by
  refine ⟨fun vs h => ?_, fun c h => ?_⟩
  · simp only [awD, List.mem_singleton] at h; subst h
    intro v hv; simp only [List.mem_singleton] at hv; subst hv; exact ⟨by decide, by decide⟩
  · simp only [awD, List.mem_singleton] at h; subst h; decide
theorem aw_clean : cleanDat awD = awD := by
  unfold cleanDat awD
  simp only [List.map_cons, List.map_nil]
  rw [show clean awVal = awVal from by decide]
theorem aw_get : fdat (str (filePut awD)) = awD ∧ fcode (str (filePut awD)) = 0 := by
  unfold fdat fcode
  rw [str_list, unfile_back aw_ok aw_in64]
  exact ⟨aw_clean, rfl⟩
theorem aw_x : fdat xxxxx = noDat ∧ fcode xxxxx = 1101 := get_sum (by decide +kernel)
theorem aw_not : decide (mayFile noDat) = false := by decide
theorem aw_err : fileErr awD = 0 := by unfold fileErr; rw [if_pos aw_ok]
theorem CSl.one {w : World} {g : Nat} {c : Colm} (h : CBox w g c) : CSl w (some ⟨g, 0, none⟩) 1 [c] := by
  refine ⟨rfl, fun _ => ⟨g, 0, rfl, h.lt, fun i hi => ?_⟩⟩
  obtain rfl : i = 0 := by simpa using hi
  exact h.cells
theorem RSl.one {w : World} {g : Nat} {r : RowA} (h : w.heap[g]? = some (.cells #[.slice r.A r.n r.c] 67 (0, 0))) : RSl w (some ⟨g, 0, none⟩) 1 [r] := by
  refine ⟨rfl, fun _ => ⟨g, 0, rfl, (Array.getElem?_eq_some_iff.1 h).1, fun i hi => ?_⟩⟩
  obtain rfl : i = 0 := by simpa using hi
  rw [Lib.cell_of_heap h]; rfl
theorem aw_in (w : World) : DIn ((((w.alloc (.cells #[.int .i64 2, .string { data := #[] }, .int .i64 1] 63)).alloc (.cells #[.int .i64 1, .int .i64 7, .bool false, .string { data := #[] }] 71)).alloc (.cells #[.slice (some ⟨w.heap.size + 1, 0, none⟩) 1 1] 67)).alloc (.cells #[.int .i64 1, .slice (some ⟨w.heap.size, 0, none⟩) 1 1, .slice (some ⟨w.heap.size + 1 + 1, 0, none⟩) 1 1] 25)) awD (some ⟨w.heap.size, 0, none⟩) 1 (some ⟨w.heap.size + 1 + 1, 0, none⟩) 1 [⟨some ⟨w.heap.size + 1, 0, none⟩, 1, 1, [awVal]⟩] := by
  have hc := (((CBox.new w awCol).alloc (.cells #[.int .i64 1, .int .i64 7, .bool false, .string { data := #[] }] 71)).alloc (.cells #[.slice (some ⟨w.heap.size + 1, 0, none⟩) 1 1] 67)).alloc (.cells #[.int .i64 1, .slice (some ⟨w.heap.size, 0, none⟩) 1 1, .slice (some ⟨w.heap.size + 1 + 1, 0, none⟩) 1 1] 25)
  have hv := ((VSl.at1 (w.alloc (.cells #[.int .i64 2, .string { data := #[] }, .int .i64 1] 63)) (w.heap.size + 1) (by simp) awVal 71).alloc (.cells #[.slice (some ⟨w.heap.size + 1, 0, none⟩) 1 1] 67)).alloc (.cells #[.int .i64 1, .slice (some ⟨w.heap.size, 0, none⟩) 1 1, .slice (some ⟨w.heap.size + 1 + 1, 0, none⟩) 1 1] 25)
  have hr0 := heap_new_at ((w.alloc (.cells #[.int .i64 2, .string { data := #[] }, .int .i64 1] 63)).alloc (.cells #[.int .i64 1, .int .i64 7, .bool false, .string { data := #[] }] 71)) (.cells #[.slice (some ⟨w.heap.size + 1, 0, none⟩) 1 1] 67) (w.heap.size + 1 + 1) (by simp)
  have hr := RSl.below (RSl.one (r := ⟨some ⟨w.heap.size + 1, 0, none⟩, 1, 1, [awVal]⟩) hr0) (Vals.one_new (.cells #[.int .i64 1, .slice (some ⟨w.heap.size, 0, none⟩) 1 1, .slice (some ⟨w.heap.size + 1 + 1, 0, none⟩) 1 1] 25))
  refine ⟨CSl.one hc, hr, ?_, rfl, by omega, by omega, ?_, ?_, ?_, by decide, by decide⟩
  · intro r h; simp only [List.mem_singleton] at h; subst h; exact hv
  · intro r h; simp only [List.mem_singleton] at h; subst h; simp
  · intro c h; simp only [awD, List.mem_singleton] at h; subst h; constructor <;> decide
  · intro r h v hv; simp only [List.mem_singleton] at h; subst h; simp only [List.mem_singleton] at hv; subst hv; constructor <;> decide
theorem no_in (w : World) : DIn w noDat none 0 none 0 [] := ⟨⟨rfl, fun h => absurd h (by omega)⟩, ⟨rfl, fun h => absurd h (by omega)⟩, by simp, rfl, by omega, by omega, by simp, by simp [noDat], by simp, by decide, by decide⟩
end Go.Proofs.YtgmemdedpklnhaaGreat.File

/-
  THE WALK of boathouselaw11.awake.
-/

namespace Go.Proofs.YtgmemdedpklnhaaGreat.File
open Go.RowKit ValMath Vals Sl VecMath Vec Dat

set_option maxRecDepth 20000 in
set_option maxHeartbeats 1000000 in
theorem awake_any (w : World) : Calls Tryz.prog 13 #[] w fun e w' => e = .returned (.bool true) ∧ Below w.heap.size w w' := by
  have hP := fun AC AV rs w h => put_any awD AC AV 1 1 1 1 rs w h
  have hM := fun AC AV rs w h => may_any awD AC AV 1 1 1 1 rs w h
  have hM0 := fun w => may_any noDat none none 0 0 0 0 [] w (no_in w)
  have hz : (str (filePut awD)).size ≤ maxReach := by rw [str_size]; decide +kernel
  have hG := fun w => get_any (str (filePut awD)) w hz
  have hS := fun w => stats_any (str (filePut awD)) w hz
  have hGx := fun w => get_any xxxxx w (by decide)
  unfold GetPost at hG hGx
  rw [aw_get.1, aw_get.2] at hG hS
  rw [aw_x.1, aw_x.2] at hGx
  rw [aw_err] at hP
  rw [show decide (mayFile awD) = true from decide_eq_true aw_ok.1] at hM
  rw [aw_not] at hM0
  generalize str (filePut awD) = P at *
  clear hz
  have HP := Lib.hid hP; clear hP
  have HM := Lib.hid hM; clear hM
  have HM0 := Lib.hid hM0; clear hM0
  have HG := Lib.hid hG; clear hG
  have HS := Lib.hid hS; clear hS
  have HGx := Lib.hid hGx; clear hGx
  have hd := aw_in w
  have hx : DBox ((((w.alloc (.cells #[.int .i64 2, .string { data := #[] }, .int .i64 1] 63)).alloc (.cells #[.int .i64 1, .int .i64 7, .bool false, .string { data := #[] }] 71)).alloc (.cells #[.slice (some ⟨w.heap.size + 1, 0, none⟩) 1 1] 67)).alloc (.cells #[.int .i64 1, .slice (some ⟨w.heap.size, 0, none⟩) 1 1, .slice (some ⟨w.heap.size + 1 + 1, 0, none⟩) 1 1] 25)) (w.heap.size + 1 + 1 + 1) 1 (.slice (some ⟨w.heap.size, 0, none⟩) 1 1) (.slice (some ⟨w.heap.size + 1 + 1, 0, none⟩) 1 1) := heap_new_at _ _ _ (by simp)
  have hbt : Below w.heap.size w ((((w.alloc (.cells #[.int .i64 2, .string { data := #[] }, .int .i64 1] 63)).alloc (.cells #[.int .i64 1, .int .i64 7, .bool false, .string { data := #[] }] 71)).alloc (.cells #[.slice (some ⟨w.heap.size + 1, 0, none⟩) 1 1] 67)).alloc (.cells #[.int .i64 1, .slice (some ⟨w.heap.size, 0, none⟩) 1 1, .slice (some ⟨w.heap.size + 1 + 1, 0, none⟩) 1 1] 25)) := (Vals.three_new _ _ _).alloc (by simp; omega) _
  have HD := Lib.hid hd; clear hd
  have HX := Lib.hid hx; clear hx
  have HBT := Lib.hid hbt; clear hbt
  obtain ⟨x0, x1, x2⟩ := HX.out.cells
  go_enter Tryz.func13, Tryz.ntmps13
  go_wp2_with fail
  refine (HP.out _ _ _ _ HD.out).mono ?_
  rintro e w1 ⟨rfl, hb1⟩
  clear x0 x1 x2
  replace HD := Lib.hid (HD.out.below hb1)
  replace HX := Lib.hid (HX.out.below hb1)
  (try replace HO := Lib.hid (HO.out.below hb1))
  (try replace HY := Lib.hid (HY.out.below hb1))
  replace HBT := Lib.hid (bthen HBT.out hb1 (Nat.le_refl _))
  clear hb1
  go_wp2_with fail
  refine (HG.out _).mono ?_
  rintro e w2 ⟨AC, nC, cC, AV, nV, cV, rs, rfl, hO, hb2⟩
  replace HD := Lib.hid (HD.out.below hb2)
  replace HX := Lib.hid (HX.out.below hb2)
  (try replace HO := Lib.hid (HO.out.below hb2))
  (try replace HY := Lib.hid (HY.out.below hb2))
  replace HBT := Lib.hid (bthen HBT.out hb2 (Nat.le_refl _))
  obtain rfl : nC = 1 := by have := (own_len hO.cols).1; simpa [awD] using this
  have hrl : rs.length = 1 := by have := congrArg List.length hO.eq; simpa [awD] using this.symm
  obtain rfl : nV = 1 := by have := (own_len hO.rows).1; omega
  have HO := Lib.hid hO; clear hO hb2
  have HY := Lib.hid (DBox.new w2 (1 : Int) (.slice AC 1 cC) (.slice AV 1 cV))
  have hb2 := Vals.one_new (w := w2) (.cells #[.int .i64 1, .slice AC 1 cC, .slice AV 1 cV] 25)
  replace HD := Lib.hid (HD.out.below hb2)
  replace HX := Lib.hid (HX.out.below hb2)
  replace HO := Lib.hid (HO.out.below hb2)
  replace HBT := Lib.hid (bthen HBT.out hb2 (Nat.le_refl _))
  clear hb2
  go_wp2_with fail
  refine (HS.out _).mono ?_
  rintro e w3 ⟨u, rfl, hS, hb3⟩
  replace HD := Lib.hid (HD.out.below hb3)
  replace HX := Lib.hid (HX.out.below hb3)
  (try replace HO := Lib.hid (HO.out.below hb3))
  (try replace HY := Lib.hid (HY.out.below hb3))
  replace HBT := Lib.hid (bthen HBT.out hb3 (Nat.le_refl _))
  obtain ⟨A6, c6, rfl, _, _⟩ := OwnG.form hS (n := 1) rfl
  clear hS hb3
  go_wp2_with fail
  refine (HGx.out _).mono ?_
  rintro e w4 ⟨AC', nC', cC', AV', nV', cV', rs', rfl, hO', hb4⟩
  replace HD := Lib.hid (HD.out.below hb4)
  replace HX := Lib.hid (HX.out.below hb4)
  (try replace HO := Lib.hid (HO.out.below hb4))
  (try replace HY := Lib.hid (HY.out.below hb4))
  replace HBT := Lib.hid (bthen HBT.out hb4 (Nat.le_refl _))
  clear hO' hb4
  have hb5 := Vals.one_new (w := w4) (.cells #[.int .i64 noDat.rows, .slice AC' nC' cC', .slice AV' nV' cV'] 25)
  replace HD := Lib.hid (HD.out.below hb5)
  replace HX := Lib.hid (HX.out.below hb5)
  (try replace HO := Lib.hid (HO.out.below hb5))
  (try replace HY := Lib.hid (HY.out.below hb5))
  replace HBT := Lib.hid (bthen HBT.out hb5 (Nat.le_refl _))
  clear hb5
  obtain ⟨x0, x1, x2⟩ := HX.out.cells
  obtain ⟨y0, y1, y2⟩ := HY.out.cells
  have hin := HD.out
  have hSD := sameData_any 1 [awCol] AC AV (some ⟨w.heap.size, 0, none⟩) (some ⟨w.heap.size + 1 + 1, 0, none⟩) 1 cC 1 cV 1 1 rs [⟨some ⟨w.heap.size + 1, 0, none⟩, 1, 1, [awVal]⟩] _ (OwnC.sl HO.out.cols rfl) hin.cols (OwnR.sl HO.out.rows hrl) hin.vals (fun r hr => (HO.out.each r hr).sl ((own_len (HO.out.each r hr)).1).symm) hin.rows (by have := HO.out.eq; rw [← this]; rfl) (by unfold maxLen; omega) (by unfold maxLen; omega) (fun r hr => by have := own_len (HO.out.each r hr); omega)
  have HSD := Lib.hid hSD; clear hSD hin hrl
  go_wp2_with fail
  refine (Nums.num_any _ _).mono ?_
  rintro e w' ⟨rfl, rfl⟩
  go_wp2_with fail
  refine HSD.out.mono ?_
  rintro e w6 ⟨rfl, hb6⟩
  clear x0 x1 x2 y0 y1 y2 HSD
  replace HD := Lib.hid (HD.out.below hb6)
  replace HX := Lib.hid (HX.out.below hb6)
  (try replace HO := Lib.hid (HO.out.below hb6))
  (try replace HY := Lib.hid (HY.out.below hb6))
  replace HBT := Lib.hid (bthen HBT.out hb6 (Nat.le_refl _))
  clear hb6
  obtain ⟨x0, x1, x2⟩ := HX.out.cells
  go_wp2_with (go_at_call 8; refine (Nums.num_any _ _).mono ?_; rintro e w' ⟨rfl, rfl⟩)
  trace "B"
  refine (HM.out _ _ _ _ HD.out).mono ?_
  rintro e w7 ⟨rfl, hb7⟩
  replace HD := Lib.hid (HD.out.below hb7)
  replace HX := Lib.hid (HX.out.below hb7)
  (try replace HO := Lib.hid (HO.out.below hb7))
  (try replace HY := Lib.hid (HY.out.below hb7))
  replace HBT := Lib.hid (bthen HBT.out hb7 (Nat.le_refl _))
  clear hb7
  trace "C"
  go_wp2_with fail
  trace "D"
  refine (HM0.out _).mono ?_
  rintro e w8 ⟨rfl, hb8⟩
  replace HD := Lib.hid (HD.out.below hb8)
  replace HX := Lib.hid (HX.out.below hb8)
  (try replace HO := Lib.hid (HO.out.below hb8))
  (try replace HY := Lib.hid (HY.out.below hb8))
  replace HBT := Lib.hid (bthen HBT.out hb8 (Nat.le_refl _))
  go_wp2_with fail
  go_ret
  exact ⟨rfl, HBT.out⟩
end Go.Proofs.YtgmemdedpklnhaaGreat.File
