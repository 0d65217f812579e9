/-
  THE WALK of bitpack.Pack.
-/
import Derived.Test.YtkkpcdpoldjmkaaPush
import Derived.Test.YtkkpcdpoldjmkaaBits
import Derived.Test.YtkkpcdpoldjmkaaBitMore
namespace Go.Proofs.Ytkkpcdpoldjmkaa.Bitpack
open Go.RowKit BitMath Sl

/-- What the loops of Pack hold: m bytes written, h bits in the window q. -/
def PackAt (w : Nat) (xs : List Int) (m h q : Nat) : Prop := w * xs.length = 8 * m + h ∧ q = all w (nats xs) / 256 ^ m ∧ all w (nats xs) < 2 ^ (w * xs.length) ∧ fit w xs
theorem PackAt.lt {w m h q : Nat} {xs : List Int} (p : PackAt w xs m h q) : q < 2 ^ h := by
  obtain ⟨h1, rfl, h3, _⟩ := p
  have := win_lt (m := m) h3 (by omega)
  rw [show w * xs.length - 8 * m = h by omega] at this; exact this
theorem PackAt.zero (w : Nat) : PackAt w [] 0 0 0 := ⟨by simp, by simp [nats, all], by simp [nats, all], fun x hx => by simp at hx⟩
theorem PackAt.add {w m h q X : Nat} {xs : List Int} (p : PackAt w xs m h q) (hX : X < 2 ^ w) : PackAt w (xs ++ [(X : Int)]) m (h + w) (q ||| X * 2 ^ h) := by
  obtain ⟨h1, rfl, h3, h4⟩ := p
  have e : all w (nats (xs ++ [(X : Int)])) = all w (nats xs) + X * 2 ^ (w * xs.length) := by rw [nats_snoc, all_snoc, nats_length]; rfl
  refine ⟨by rw [List.length_append, Nat.mul_add]; simp; omega, ?_, ?_, fit_snoc h4 (by omega) (by omega)⟩
  · rw [e, ← win_or h3 (show 8 * m ≤ w * xs.length by omega), show w * xs.length - 8 * m = h by omega]
  · rw [e, List.length_append, Nat.mul_add]; simp only [List.length_cons, List.length_nil, Nat.zero_add, Nat.mul_one]; exact add_lt h3 hX
theorem PackAt.push {w m h q : Nat} {xs : List Int} (p : PackAt w xs m (h + 8) q) : PackAt w xs (m + 1) h (q / 256) := by
  obtain ⟨h1, rfl, h3, h4⟩ := p
  exact ⟨by omega, win_shift _ _, h3, h4⟩
theorem PackAt.byte {w m h q : Nat} {xs : List Int} (p : PackAt w xs m h q) : BitMath.bytes (m + 1) (all w (nats xs)) = BitMath.bytes m (all w (nats xs)) ++ [UInt8.ofNat (q % 256)] := by
  rw [bytes_succ, ← p.2.1]
theorem PackAt.done {w m : Nat} {q : Nat} {xs : List Int} (p : PackAt w xs m 0 q) : BitMath.bytes m (all w (nats xs)) = packed w (nats xs) := by
  unfold packed; rw [nats_length]; congr 1; have := p.1; omega
theorem PackAt.last {w m h q : Nat} {xs : List Int} (p : PackAt w xs m h q) (h0 : 0 < h) (h8 : h < 8) : BitMath.bytes (m + 1) (all w (nats xs)) = packed w (nats xs) := by
  unfold packed; rw [nats_length]; congr 1; have := p.1; omega
theorem bv_mod (q : Nat) : bv (UInt8.ofNat (q % 256)) = .int .u8 ((q : Int) % 256) := by
  unfold bv; rw [UInt8.toNat_ofNat', Nat.mod_eq_of_lt (by omega)]; congr 1
theorem or_win {q X h : Nat} (hq : q < 2 ^ h) (hX : X < 65536) (hh : h < 8) : bits .or .i64 (q : Int) (wrap64 ((X : Int) * 2 ^ h)) = ((q ||| X * 2 ^ h : Nat) : Int) ∧ (q ||| X * 2 ^ h) < 16777216 := by
  have h7 : 2 ^ h ≤ 2 ^ 7 := Nat.pow_le_pow_right (by omega) (by omega)
  have h8 : X * 2 ^ h ≤ 65535 * 2 ^ 7 := Nat.mul_le_mul (by omega) h7
  have e : (X : Int) * 2 ^ h = ((X * 2 ^ h : Nat) : Int) := by push_cast; rfl
  have e2 : wrap64 ((X : Int) * 2 ^ h) = ((X * 2 ^ h : Nat) : Int) := by rw [e]; unfold wrap64; omega
  rw [e2]
  exact ⟨or_i64 _ _ (by omega) (by omega), Nat.or_lt_two_pow (n := 24) (by omega) (by omega)⟩
theorem own_str_bytes {w : World} {B : Nat} {v : Value} {l l' : List UInt8} (h : OwnB w B v l) (e : l = l') : OwnB w B v l' := e ▸ h

set_option maxRecDepth 100000 in
set_option maxHeartbeats 8000000 in
theorem pack_any (A : Option Addr) (n c : Nat) (xs : List Int) (width : Int) (w : World) (hx : ISl w A n xs) (hn : n ≤ 17592186044416) :
    Calls Try.prog 109 #[.slice A n c, .int .i64 width] w fun e w' => e = .returned (.tuple #[.string (str (packS xs width)), .int .i64 (packE xs width)]) ∧ Below w.heap.size w w' := by
  by_cases hw : wide width
  · obtain ⟨e1, e2⟩ := pack_wide (xs := xs) hw
    rw [e1, e2]
    unfold wide at hw
    clear e1 e2
    go_enter Try.func109, Try.ntmps109
    by_cases h0 : width < 0
    · go_wp2
      go_ret2
      exact ⟨rfl, Below.refl _ _⟩
    · have h1 : 16 < width := by omega
      go_wp2
      go_ret2
      exact ⟨rfl, Below.refl _ _⟩
  obtain ⟨wd, rfl⟩ : ∃ wd : Nat, width = (wd : Nat) := ⟨width.toNat, by unfold wide at hw; omega⟩
  have hw16 : wd ≤ 16 := by unfold wide at hw; omega
  clear hw
  have hxl := hx.1
  obtain ⟨R, hR⟩ : ∃ R, R = packS xs (wd : Nat) := ⟨_, rfl⟩
  obtain ⟨E, hE⟩ : ∃ E, E = packE xs (wd : Nat) := ⟨_, rfl⟩
  rw [← hR, ← hE]
  have HRE := Lib.hid (And.intro hR hE); clear hR hE
  have HX := Lib.hid hx; clear hx
  have HXL := Lib.hid hxl; clear hxl
  have h16 : 2 ^ wd ≤ 2 ^ 16 := Nat.pow_le_pow_right (by omega) hw16
  have H16 := Lib.hid h16; clear h16
  go_enter Try.func109, Try.ntmps109
  go_wp2
  go_loopw [6, 7, 8, 19] (fun ov qv hv iv wr => ∃ k m h q : Nat, k ≤ n ∧ iv = .int .i64 k ∧ h < 8 ∧ hv = .int .i64 h ∧ qv = .int .i64 q ∧ m ≤ 2 * k ∧ Hid (PackAt wd (xs.take k) m h q) ∧ OwnB wr w.heap.size ov (BitMath.bytes m (all wd (nats (xs.take k)))) ∧ Below w.heap.size w wr) (fun _ _ _ iv _ => n - (intOf iv).toNat)
  case atStart => exact ⟨0, 0, 0, 0, by omega, rfl, by omega, rfl, rfl, by omega, Lib.hid (PackAt.zero wd), OwnB.nil _ _, Below.refl _ _⟩
  case round =>
    obtain ⟨k, m, h, q, hk, rfl, hh, rfl, rfl, hm, hp, hO, hb⟩ := hrel
    have HO := Lib.hid hO; clear hO
    by_cases hkn : k < n
    · obtain ⟨g, off, x, hxk, rfl, hg, hcell⟩ := (HX.out.keep hb (fun b o e => (HX.out.2 (by omega)).elim fun b' h' => h'.elim fun o' h'' => by obtain ⟨e', hlt, _⟩ := h''; rw [e'] at e; injection e with e; injection e with e1; omega)).at_ (k := k) hkn
      have hkl : k < xs.length := by rw [HXL.out]; exact hkn
      have hxe : xs[k] = x := by rw [List.getElem?_eq_getElem hkl] at hxk; injection hxk
      have hts : xs.take (k + 1) = xs.take k ++ [x] := Vals.take_more hxk
      by_cases h0 : x < 0
      · obtain ⟨e1, e2⟩ := pack_not hw16 (not_fit_at (w := wd) hkl (.inl (by rw [hxe]; exact h0)))
        have HE := Lib.hid (And.intro e1 e2); clear e1 e2 hts hxe hxk
        go_wp2
        go_ret2
        exact ⟨by rw [HRE.out.1, HRE.out.2, HE.out.1, HE.out.2]; rfl, hb⟩
      obtain ⟨X, rfl⟩ : ∃ X : Nat, x = (X : Nat) := ⟨x.toNat, by omega⟩
      by_cases hz : X / 2 ^ wd = 0
      · have hX : X < 2 ^ wd := (Nat.div_eq_zero_iff_lt (Nat.pow_pos (by omega))).1 hz
        have hXl : X < 65536 := Nat.lt_of_lt_of_le hX H16.out
        have hzi : (X : Int) / 2 ^ wd = 0 := by exact_mod_cast hz
        obtain ⟨hor, hq24⟩ := or_win hp.out.lt hXl hh
        have hp2 := hp.out.add hX
        rw [← hts] at hp2
        have HP2 := Lib.hid hp2; clear hp2 hz
        have hbs : BitMath.bytes m (all wd (nats (xs.take k))) = BitMath.bytes m (all wd (nats (xs.take (k + 1)))) := by
          refine bytes_mod _ _ _ ?_
          rw [hts, nats_snoc, all_snoc, nats_length]
          obtain ⟨h1, _, _, _⟩ := hp.out
          have e : 2 ^ (wd * (xs.take k).length) = 256 ^ m * 2 ^ h := by rw [p256, ← Nat.pow_add, h1]
          rw [e, ← Nat.mul_assoc, Nat.mul_comm ((X : Int).toNat) (256 ^ m), Nat.mul_assoc, Nat.add_mul_mod_self_left]
        have hO2 := own_str_bytes HO.out hbs
        have HO2 := Lib.hid hO2; clear hO2 hbs hts hxe hxk HO hkl hp
        generalize q ||| X * 2 ^ h = q2 at *
        have hwp := HP2.out
        have hm2 : m ≤ 2 * (k + 1) := by omega
        have hlt24 : h + wd < 24 := by omega
        go_wp2
        go_loopw [6, 7, 8] (fun ov qv hv w2 => ∃ m' h' q' : Nat, h' < 24 ∧ hv = .int .i64 h' ∧ qv = .int .i64 q' ∧ m' ≤ 2 * (k + 1) ∧ q' < 16777216 ∧ Hid (PackAt wd (xs.take (k + 1)) m' h' q') ∧ OwnB w2 w.heap.size ov (BitMath.bytes m' (all wd (nats (xs.take (k + 1))))) ∧ Below w.heap.size w w2) (fun _ _ hv _ => (intOf hv).toNat)
        case atStart => exact ⟨m, h + wd, q2, hlt24, by go_num, rfl, hm2, hq24, HP2, HO2.out, hb⟩
        case round =>
          obtain ⟨m', h', q', hh', rfl, rfl, hm', hq', hp', hO', hb'⟩ := hrel
          have HO' := Lib.hid hO'; clear hO'
          by_cases h8 : 8 ≤ h'
          · obtain ⟨h'', rfl⟩ : ∃ h'', h' = h'' + 8 := ⟨h' - 8, by omega⟩
            have hbv := bv_mod q'
            have hby := hp'.out.byte
            have hpp := hp'.out.push
            have hml : m' + 1 ≤ 2 * (k + 1) := by
              have h1 := hp'.out.1
              have h2 : (xs.take (k + 1)).length ≤ k + 1 := List.length_take_le _ _
              have h3 : wd * (xs.take (k + 1)).length ≤ 16 * (k + 1) := Nat.mul_le_mul hw16 h2
              omega
            have hbl := bytes_length m' (all wd (nats (xs.take (k + 1))))
            have HBY := Lib.hid (And.intro hby hpp); clear hby hpp
            generalize BitMath.bytes m' (all wd (nats (xs.take (k + 1)))) = L at *
            go_wp2_with (first
              | (refine wpList_push_byte rfl _ _ rfl w.heap.size _ L (UInt8.ofNat (q' % 256)) wr.heap.size 1 rfl rfl (t := 5) (fr := (0, 0)) (by rw [hbv]; exact heap_alloc_new wr _) (HO'.out.alloc _) (by unfold fewB; omega) (by have := hb'.size; simp; omega) ?_; intro u wA hA hgA hatA; have HA := Lib.hid hA; clear hA))
            go_roundw
            case rel => exact ⟨m' + 1, h'', q' / 256, by omega, by go_num, by go_num, hml, by omega, Lib.hid HBY.out.2, own_str_bytes HA.out HBY.out.1.symm, (hb'.alloc hb'.size _).grown hgA (by have := hb'.size; simp; omega) (own_base HO'.out)⟩
            case measure => simp [intOf]; omega
          · go_wp2
            go_roundw
            case rel => exact ⟨k + 1, m', h', q', by omega, by go_num, by omega, rfl, rfl, hm', hp', HO'.out, hb'⟩
            case measure => simp [intOf]; omega
      · obtain ⟨e1, e2⟩ := pack_not hw16 (not_fit_at (w := wd) hkl (.inr (by
          rw [hxe]
          have : 2 ^ wd ≤ X := by
            rcases Nat.lt_or_ge X (2 ^ wd) with h1 | h1
            · exact absurd (Nat.div_eq_of_lt h1) hz
            · exact h1
          omega)))
        have hzi : ¬ (X : Int) / 2 ^ wd = 0 := by exact_mod_cast hz
        have HE := Lib.hid (And.intro e1 e2); clear e1 e2 hts hxe hxk hz
        go_wp2
        go_ret2
        exact ⟨by rw [HRE.out.1, HRE.out.2, HE.out.1, HE.out.2]; rfl, hb⟩
    · obtain rfl : k = n := by omega
      have hxt : xs.take k = xs := List.take_of_length_le (by rw [HXL.out]; exact Nat.le_refl _)
      rw [hxt] at hp
      have hO2 := HO.out
      rw [hxt] at hO2
      have HO2 := Lib.hid hO2; clear hO2
      obtain ⟨e1, e2⟩ := pack_fit hw16 hp.out.2.2.2
      have HE := Lib.hid (And.intro e1 e2); clear e1 e2 hxt HO
      have hbl := bytes_length m (all wd (nats xs))
      by_cases h0 : 0 < h
      · have hbv := bv_mod q
        have hby := hp.out.byte
        rw [hp.out.last h0 hh] at hby
        have HBY := Lib.hid hby; clear hby
        generalize BitMath.bytes m (all wd (nats xs)) = L at *
        go_wp2_with (first
          | (refine wpList_push_byte rfl _ _ rfl w.heap.size _ L (UInt8.ofNat (q % 256)) wr.heap.size 1 rfl rfl (t := 5) (fr := (0, 0)) (by rw [hbv]; exact heap_alloc_new wr _) (HO2.out.alloc _) (by unfold fewB; omega) (by have := hb.size; simp; omega) ?_; intro u wA hA hgA hatA; have HA := Lib.hid hA; clear hA)
          | (refine wpList_own_string rfl _ _ 5 _ rfl u rfl w.heap.size (L ++ [UInt8.ofNat (q % 256)]) HA.out Try.underlying32 Try.underlying5 Try.underlying9 ?_))
        go_ret2
        exact ⟨by rw [HRE.out.1, HRE.out.2, HE.out.1, HE.out.2, HBY.out]; rfl, (hb.alloc hb.size _).grown hgA (by have := hb.size; simp; omega) (own_base HO2.out)⟩
      · obtain rfl : h = 0 := by omega
        have hd := hp.out.done
        have HD := Lib.hid hd; clear hd
        generalize BitMath.bytes m (all wd (nats xs)) = L at *
        go_wp2_with (first
          | (refine wpList_own_string rfl _ _ 5 _ rfl _ rfl w.heap.size L HO2.out Try.underlying32 Try.underlying5 Try.underlying9 ?_))
        go_ret2
        exact ⟨by rw [HRE.out.1, HRE.out.2, HE.out.1, HE.out.2, ← HD.out]; rfl, hb⟩
end Go.Proofs.Ytkkpcdpoldjmkaa.Bitpack
