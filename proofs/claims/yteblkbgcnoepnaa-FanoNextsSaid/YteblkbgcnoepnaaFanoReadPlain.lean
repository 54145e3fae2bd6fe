/-
  Plain laws of reading numbers that do not fall out of their bits: the value at a mark, the list of the values, when the parts are good. Conditions: none; no program in sight.
-/
import Derived.Test.YteblkbgcnoepnaaFanoPlain
import Derived.Test.YteblkbgcnoepnaaPackedPlain
import Derived.Test.YteblkbgcnoepnaaBitsCount
import Derived.Test.YteblkbgcnoepnaaBits
namespace Go.Dam
open Go Go.RowKit
set_option linter.unusedVariables false
/-- Are two lists of words one? -/
def eqW (l m : List Nat) : Bool := decide (l = m)
theorem eqW_of {l m : List Nat} (h : l = m) : eqW l m = true := decide_eq_true h
theorem eqW_not {l m : List Nat} (h : l ≠ m) : eqW l m = false := decide_eq_false h
theorem eqW_len {l m : List Nat} (h : l.length ≠ m.length) : eqW l m = false := eqW_not fun e => h (by rw [e])
theorem eqW_at {l m : List Nat} {i : Nat} (h : l.getD i 0 ≠ m.getD i 0) : eqW l m = false := eqW_not fun e => h (by rw [e])
theorem eqW_all {l m : List Nat} (h : l.length = m.length) (g : ∀ i, i < l.length → l.getD i 0 = m.getD i 0) : eqW l m = true := by
  refine eqW_of (List.ext_getElem h fun i h1 h2 => ?_)
  have := g i h1
  simpa [h1, h2] using this
attribute [irreducible] eqW
theorem wrap_shape (N Q t R x z : Nat) (hN : N = Q * t) (hQR : Q * R = 9223372036854775808) (hx : x < Q) (hlt : N < 18446744073709551616) (z' : Int) (hz : z' = if N < 9223372036854775808 then (N : Int) else (N : Int) - 18446744073709551616) :
    wrap64 ((N + x : Nat) : Int) = z' + x ∧ wrap64 (z' + x) = z' + x := by
  have hQ0 : 0 < Q := by
    rcases Nat.eq_zero_or_pos Q with h | h
    · rw [h, Nat.zero_mul] at hQR; omega
    · exact h
  have h1 : N < 9223372036854775808 → N + Q ≤ 9223372036854775808 := by
    intro h
    rw [hN, ← hQR] at h
    have h2 : t < R := Nat.lt_of_mul_lt_mul_left h
    have h3 := Nat.mul_le_mul_left Q h2
    rw [Nat.mul_succ] at h3
    omega
  have h2 : N + Q ≤ 18446744073709551616 := by
    have e : Q * (2 * R) = 18446744073709551616 := by rw [Nat.mul_left_comm, hQR]
    have h : Q * t < Q * (2 * R) := by omega
    have h2 : t < 2 * R := Nat.lt_of_mul_lt_mul_left h
    have h3 := Nat.mul_le_mul_left Q h2
    rw [Nat.mul_succ] at h3
    omega
  subst hz
  unfold wrap64
  by_cases h : N < 9223372036854775808
  · have h4 := h1 h
    rw [if_pos h]
    omega
  · rw [if_neg h]
    omega
theorem i64_or_wide (z : Int) (N x : Nat) (hz : (BitVec.ofInt 64 z).toNat = N) (hx : x < 9223372036854775808) : bits .or .i64 z (x : Int) = wrap64 ((N ||| x : Nat) : Int) := by
  show IntKind.i64.wrap ((BitVec.ofInt 64 z ||| BitVec.ofInt 64 (x : Int)).toNat : Int) = _
  rw [BitVec.toNat_or, hz, ofInt_i64 x hx, IntKind.wrap_i64, wrap64]
theorem ofInt_neg64 (z : Int) (N : Nat) (hlt : N < 18446744073709551616) (hz : z = if N < 9223372036854775808 then (N : Int) else (N : Int) - 18446744073709551616) : (BitVec.ofInt 64 z).toNat = N := by
  rw [BitVec.toNat_ofInt, hz]
  split <;> omega
theorem wrap_nat (M N : Nat) (hN : N = M % 18446744073709551616) : wrap64 (M : Int) = if N < 9223372036854775808 then (N : Int) else (N : Int) - 18446744073709551616 := by
  unfold wrap64
  split <;> omega
theorem low_beside0 (y W x Q R N t : Nat) (z : Int) (hQ : Q = 2 ^ W) (hQR : Q * R = 9223372036854775808) (hQl : Q ≤ 4611686018427387904) (hx : x < Q) (hlt : N < 18446744073709551616) (ht : N = Q * t)
    (hz : z = if N < 9223372036854775808 then (N : Int) else (N : Int) - 18446744073709551616) : bits .or .i64 z (x : Int) = z + x ∧ wrap64 (z + x) = z + x := by
  obtain ⟨k1, k2⟩ := wrap_shape N Q t R x 0 ht hQR hx hlt z hz
  refine ⟨?_, k2⟩
  rw [← k1, i64_or_wide z N x (ofInt_neg64 z N hlt hz) (by omega), ht, hQ, ← Nat.two_pow_add_eq_or_of_lt (hQ ▸ hx)]
theorem div_keeps (M Q R : Nat) (hQR : Q * R = 9223372036854775808) (h : Q ∣ M) : ∃ t, M % 18446744073709551616 = Q * t := by
  have h1 : Q ∣ 18446744073709551616 := ⟨2 * R, by rw [Nat.mul_left_comm, hQR]⟩
  exact (Nat.dvd_mod_iff h1).2 h
/-- The value: a shifted number with its lower bits beside. -/
theorem low_beside (y W x : Nat) (hW : W ≤ 62) (hx : x < 2 ^ W) :
    bits .or .i64 (wrap64 ((y : Int) * ((2 ^ W : Nat) : Int))) (x : Int) = wrap64 ((y : Int) * ((2 ^ W : Nat) : Int)) + x ∧ wrap64 (wrap64 ((y : Int) * ((2 ^ W : Nat) : Int)) + x) = wrap64 ((y : Int) * ((2 ^ W : Nat) : Int)) + x := by
  have hQR : 2 ^ W * 2 ^ (63 - W) = 9223372036854775808 := by rw [← Nat.pow_add, show W + (63 - W) = 63 from by omega]
  have hp62 : 2 ^ W ≤ 4611686018427387904 := by
    have h : 2 ^ W ≤ 2 ^ 62 := Nat.pow_le_pow_right (by decide) hW
    exact h
  have hcast : (y : Int) * ((2 ^ W : Nat) : Int) = ((y * 2 ^ W : Nat) : Int) := by rw [Int.natCast_mul]
  obtain ⟨Q, hQ⟩ : ∃ Q, Q = 2 ^ W := ⟨_, rfl⟩
  rw [hcast]
  rw [← hQ] at hQR hp62 hx ⊢
  obtain ⟨t, ht⟩ := div_keeps (y * Q) Q _ hQR ⟨y, Nat.mul_comm _ _⟩
  have hlt : y * Q % 18446744073709551616 < 18446744073709551616 := Nat.mod_lt _ (by decide)
  have hz := wrap_nat (y * Q) _ rfl
  generalize y * Q % 18446744073709551616 = N at *
  generalize wrap64 ((y * Q : Nat) : Int) = z at *
  exact low_beside0 y W x Q _ N t z hQ hQR hp62 hx hlt ht hz
/-- The value at a mark: the i-th mark stands at p. -/
def valF (ws1 : List Nat) (W p i : Nat) : Int := wrap64 (((p - i : Nat) : Int) * ((2 ^ W : Nat) : Int)) + (numAt ws1 (i * W) W : Nat)
theorem valF_eq (ws1 : List Nat) (W p i : Nat) : valF ws1 W p i = wrap64 (((p - i : Nat) : Int) * ((2 ^ W : Nat) : Int)) + (numAt ws1 (i * W) W : Nat) := rfl
theorem valF_or (ws1 : List Nat) (W p i : Nat) (hW : W ≤ 62) : bits .or .i64 (wrap64 (((p - i : Nat) : Int) * ((2 ^ W : Nat) : Int))) ((numAt ws1 (i * W) W : Nat) : Int) = valF ws1 W p i := (low_beside _ W _ hW (numAt_lt _ _ _)).1
theorem valF_add (ws1 : List Nat) (W p i : Nat) (hW : W ≤ 62) : wrap64 (wrap64 (((p - i : Nat) : Int) * ((2 ^ W : Nat) : Int)) + ((numAt ws1 (i * W) W : Nat) : Int)) = valF ws1 W p i := (low_beside _ W _ hW (numAt_lt _ _ _)).2
theorem valF_i64 (ws1 : List Nat) (W p i : Nat) (hW : W ≤ 62) : -9223372036854775808 ≤ valF ws1 W p i ∧ valF ws1 W p i ≤ 9223372036854775807 := by
  rw [← valF_add ws1 W p i hW]
  unfold wrap64
  omega
attribute [irreducible] valF
/-- The values at the marks of the first j bits. -/
def readTo (ws1 ws2 : List Nat) (W : Nat) : Nat → List Int
  | 0 => []
  | j + 1 => if bitAt ws2 j = true then readTo ws1 ws2 W j ++ [valF ws1 W j (cntB ws2 true j)] else readTo ws1 ws2 W j
theorem readTo_0 (ws1 ws2 : List Nat) (W : Nat) : readTo ws1 ws2 W 0 = [] := rfl
theorem readTo_yes {ws1 ws2 : List Nat} {W j : Nat} (h : bitAt ws2 j = true) : readTo ws1 ws2 W (j + 1) = readTo ws1 ws2 W j ++ [valF ws1 W j (cntB ws2 true j)] := by rw [readTo, if_pos h]
theorem readTo_no {ws1 ws2 : List Nat} {W j : Nat} (h : ¬ bitAt ws2 j = true) : readTo ws1 ws2 W (j + 1) = readTo ws1 ws2 W j := by rw [readTo, if_neg h]
theorem readTo_length (ws1 ws2 : List Nat) (W : Nat) : ∀ j, (readTo ws1 ws2 W j).length = cntB ws2 true j
  | 0 => by rw [readTo_0, cntB_0]; rfl
  | j + 1 => by
    by_cases h : bitAt ws2 j = true
    · rw [readTo_yes h, cntB_yes h, List.length_append, readTo_length ws1 ws2 W j]; rfl
    · rw [readTo_no h, cntB_no h, readTo_length ws1 ws2 W j]
theorem readTo_pre (ws1 ws2 : List Nat) (W j : Nat) : ∀ d, ∃ r, readTo ws1 ws2 W (j + d) = readTo ws1 ws2 W j ++ r
  | 0 => ⟨[], by simp⟩
  | d + 1 => by
    obtain ⟨r, hr⟩ := readTo_pre ws1 ws2 W j d
    by_cases h : bitAt ws2 (j + d) = true
    · exact ⟨r ++ [valF ws1 W (j + d) (cntB ws2 true (j + d))], by rw [← Nat.add_assoc, readTo_yes h, hr, List.append_assoc]⟩
    · exact ⟨r, by rw [← Nat.add_assoc, readTo_no h, hr]⟩
/-- The first values of the whole list are those of the first bits. -/
theorem readTo_take (ws1 ws2 : List Nat) (W j n : Nat) (h : j ≤ n) : (readTo ws1 ws2 W n).take (cntB ws2 true j) = readTo ws1 ws2 W j := by
  obtain ⟨r, hr⟩ := readTo_pre ws1 ws2 W j (n - j)
  rw [show j + (n - j) = n from by omega] at hr
  rw [hr, ← readTo_length ws1 ws2 W j, List.take_left']
  rfl
theorem readTo_take_succ (ws1 ws2 : List Nat) (W j n : Nat) (h : j < n) (hb : bitAt ws2 j = true) : (readTo ws1 ws2 W n).take (cntB ws2 true j + 1) = (readTo ws1 ws2 W n).take (cntB ws2 true j) ++ [valF ws1 W j (cntB ws2 true j)] := by
  rw [readTo_take ws1 ws2 W j n (by omega), ← readTo_yes hb, ← readTo_take ws1 ws2 W (j + 1) n (by omega), cntB_yes hb]
theorem readTo_i64 (ws1 ws2 : List Nat) (W : Nat) (hW : W ≤ 62) : ∀ j, ∀ z ∈ readTo ws1 ws2 W j, -9223372036854775808 ≤ z ∧ z ≤ 9223372036854775807
  | 0, z, hz => by rw [readTo_0] at hz; cases hz
  | j + 1, z, hz => by
    by_cases h : bitAt ws2 j = true
    · rw [readTo_yes h] at hz
      rcases List.mem_append.1 hz with g | g
      · exact readTo_i64 ws1 ws2 W hW j z g
      · rw [List.mem_singleton.1 g]; exact valF_i64 _ _ _ _ hW
    · rw [readTo_no h] at hz
      exact readTo_i64 ws1 ws2 W hW j z hz
/-- Are the parts good: they may be, there are as many marks as numbers, and making gives the same parts. -/
def GoodF (n1 m1 : Int) (ws1 : List Nat) (n2 : Int) (ws2 : List Nat) (gm : Int) (gws1 : List Nat) (gn2 : Int) (gws2 : List Nat) (gc : Int) : Prop :=
  mayPacked n1 m1 ws1 = true ∧ mayBits n2 ws2 = true ∧ (cntB ws2 true n2.toNat : Int) = n1 ∧ gc = 0 ∧ gm = m1 ∧ gws1 = ws1 ∧ gn2 = n2 ∧ gws2 = ws2
theorem goodF_iff {n1 m1 : Int} {ws1 : List Nat} {n2 : Int} {ws2 : List Nat} {gm : Int} {gws1 : List Nat} {gn2 : Int} {gws2 : List Nat} {gc : Int} : GoodF n1 m1 ws1 n2 ws2 gm gws1 gn2 gws2 gc ↔
    (mayPacked n1 m1 ws1 = true ∧ mayBits n2 ws2 = true ∧ (cntB ws2 true n2.toNat : Int) = n1 ∧ gc = 0 ∧ gm = m1 ∧ gws1 = ws1 ∧ gn2 = n2 ∧ gws2 = ws2) := Iff.rfl
/-- The list that the parts hold. -/
def listF (m1 : Int) (ws1 : List Nat) (n2 : Int) (ws2 : List Nat) : List Int := readTo ws1 ws2 m1.toNat n2.toNat
theorem listF_nat (W : Nat) (ws1 : List Nat) (N : Nat) (ws2 : List Nat) : listF W ws1 N ws2 = readTo ws1 ws2 W N := rfl
/-! ### how many marks making sets -/
theorem cntB_count (ws : List Nat) (bs : List Bool) (h : ∀ j, j < bs.length → bitAt ws j = bs.getD j false) : ∀ k, k ≤ bs.length → cntB ws true k = (bs.take k).count true
  | 0, _ => by rw [cntB_0]; simp
  | k + 1, hk => by
    have ih := cntB_count ws bs h k (by omega)
    have e := h k (by omega)
    have hb : bs[k]? = some (bs.getD k false) := by rw [List.getD_eq_getElem?_getD, List.getElem?_eq_getElem (by omega)]; rfl
    rw [List.take_add_one, hb, List.count_append, ← ih]
    by_cases g : bitAt ws k = true
    · rw [cntB_yes g, ← e, g]; rfl
    · rw [cntB_no g, ← e]
      have : bitAt ws k = false := by simpa using g
      rw [this]; rfl
theorem high_mono {bound : Int} {l : List Int} (h : OkF bound l) (w : Nat) {i j : Nat} (hij : i < j) (hj : j < l.length) : (l.getD i 0).toNat / 2 ^ w + i < (l.getD j 0).toNat / 2 ^ w + j := by
  have h1 := sorted_mono (okF_iff.1 h).1 i (j - i) (by omega)
  rw [show i + (j - i) = j from by omega] at h1
  have h2 : (l.getD i 0).toNat / 2 ^ w ≤ (l.getD j 0).toNat / 2 ^ w := Nat.div_le_div_right (by omega)
  omega
theorem highF_clear {bound : Int} {l : List Int} (h : OkF bound l) (w N : Nat) : ∀ t p, t ≤ l.length → (∀ i, i < t → (l.getD i 0).toNat / 2 ^ w + i < p) → (highF w l N t).getD p false = false
  | 0, p, _, _ => by rw [highF_0]; simp [List.getD_eq_getElem?_getD, List.getElem?_replicate]; split <;> rfl
  | t + 1, p, ht, hp => by
    have := hp t (by omega)
    rw [highF_succ, List.getD_eq_getElem?_getD, List.getElem?_set_ne (by omega), ← List.getD_eq_getElem?_getD]
    exact highF_clear h w N t p (by omega) fun i hi => hp i (by omega)
theorem highF_count {bound : Int} {l : List Int} (h : OkF bound l) (w N : Nat) (hN : ∀ i, i < l.length → (l.getD i 0).toNat / 2 ^ w + i < N) : ∀ t, t ≤ l.length → (highF w l N t).count true = t
  | 0, _ => by rw [highF_0, List.count_replicate]; simp
  | t + 1, ht => by
    have h1 := hN t (by omega)
    have hc := highF_clear h w N t ((l.getD t 0).toNat / 2 ^ w + t) (by omega) fun i hi => high_mono h w hi (by omega)
    have hl := highF_length w l N t
    rw [highF_succ, List.count_set (by rw [hl]; exact h1), highF_count h w N hN t (by omega)]
    have : (highF w l N t)[(l.getD t 0).toNat / 2 ^ w + t]'(by rw [hl]; exact h1) = false := by
      rw [List.getD_eq_getElem?_getD, List.getElem?_eq_getElem (by rw [hl]; exact h1)] at hc
      exact hc
    rw [this]; rfl
/-- What making gives has as many marks as there are numbers. -/
theorem made_marks {bound : Int} {l : List Int} {bd gn1 gm : Int} {gws1 : List Nat} {gn2 : Int} {gws2 : List Nat} {P : Nat → List Int → Int → Int → List Nat → Prop}
    (hG : FanoR bound l bd gn1 gm gws1 gn2 gws2 0 P) : cntB gws2 true gn2.toNat = l.length := by
  rcases hG with ⟨h, _⟩ | ⟨_, hl, hok, b, w, rfl, hb, hw, _, _, rfl, rfl⟩
  · exact absurd rfl h
  · rcases Nat.eq_zero_or_pos l.length with h0 | h0
    · have e : lenF b l.length w = 0 := by unfold lenF; rw [if_pos h0]
      rw [e, h0, Int.toNat_natCast, cntB_0]
    · have e : lenF b l.length w = b / 2 ^ w + l.length + 1 := by unfold lenF; rw [if_neg (by omega)]
      rw [e, Int.toNat_natCast]
      obtain ⟨N, hN⟩ : ∃ N, N = b / 2 ^ w + l.length + 1 := ⟨_, rfl⟩
      rw [← hN]
      have hlen := highF_length w l N l.length
      have hbit : ∀ j, j < (highF w l N l.length).length → bitAt (packW (highF w l N l.length) ((N + 63) / 64) N) j = (highF w l N l.length).getD j false := by
        intro j hj
        rw [hlen] at hj
        rw [packW_bit _ _ _ (by omega), decide_eq_true hj, Bool.true_and]
      have h1 := cntB_count _ _ hbit N (by rw [hlen]; exact Nat.le_refl _)
      rw [h1, List.take_of_length_le (by rw [hlen]; exact Nat.le_refl _)]
      refine highF_count hok w N (fun i hi => ?_) l.length (Nat.le_refl _)
      obtain ⟨ha, hb2, _⟩ := hok i hi
      have : (l.getD i 0).toNat / 2 ^ w ≤ b / 2 ^ w := Nat.div_le_div_right (by omega)
      omega
attribute [irreducible] readTo listF GoodF
end Go.Dam
