/-
  Plain law, no program in sight: a wave that was made reads back as the numbers that it was made of. Conditions: the numbers fit.
-/
import Derived.Test.YtdmfhpigchbcbaaMTopCover12
import Derived.Test.YtdmfhpigchbcbaaMTopCover17
namespace Go.Dam
open Go Go.RowKit Go.Proofs.Ytdmfhpigchbcbaa
set_option linter.unusedVariables false
theorem halfK_app (k : Nat) (b : Bool) (x y : List Int) : halfK k b (x ++ y) = halfK k b x ++ halfK k b y := by unfold halfK; exact List.filter_append x y
theorem halfK_cut {k : Nat} {b : Bool} {m : List Int} {p : Nat} (hp : p < m.length) (hb : bitK k (m.getD p 0) = b) : (halfK k b m).getD (halfK k b (m.take p)).length 0 = m.getD p 0 := by
  have e : m = m.take p ++ (m.getD p 0 :: m.drop (p + 1)) := by
    have h1 : m.getD p 0 = m[p] := by rw [List.getD_eq_getElem?_getD, List.getElem?_eq_getElem hp]; rfl
    rw [h1, ← List.drop_eq_getElem_cons hp, List.take_append_drop]
  have e2 : halfK k b m = halfK k b (m.take p) ++ halfK k b (m.getD p 0 :: m.drop (p + 1)) := by
    conv => lhs; rw [e]
    rw [halfK_app]
  rw [e2, List.getD_eq_getElem?_getD, List.getElem?_append_right (Nat.le_refl _), Nat.sub_self]
  unfold halfK
  rw [List.filter_cons_of_pos (by rw [hb]; exact beq_self_eq_true b)]
  rfl
theorem halfK_cnt {k : Nat} {b : Bool} {m : List Int} {ws : List Nat} (h : ∀ q, q < m.length → bitAt ws q = bitK k (m.getD q 0)) : ∀ p, p ≤ m.length → (halfK k b (m.take p)).length = cntB ws b p
  | 0, _ => by rw [List.take_zero, cntB_0]; unfold halfK; rfl
  | p + 1, hp => by
    have ih := halfK_cnt (b := b) h p (by omega)
    rw [half_take (by omega)]
    have hq := h p (by omega)
    by_cases hb : bitK k (m.getD p 0) = b
    · rw [if_pos hb, List.length_append, ih, cntB_yes (by rw [hq, hb])]; rfl
    · rw [if_neg hb, ih, cntB_no (by rw [hq]; exact hb)]
theorem partK_at {k : Nat} {m : List Int} {ws : List Nat} (h : ∀ q, q < m.length → bitAt ws q = bitK k (m.getD q 0)) {p : Nat} (hp : p < m.length) : (partK k m).getD (dnW ws m.length (bitAt ws p) p) 0 = m.getD p 0 := by
  have hq := h p hp
  have hc := cntB_lt_iff (ws := ws) (p := p) (one := bitAt ws p) rfl m.length
  have hl := halfK_cnt (b := bitAt ws p) h p (by omega)
  have hf := halfK_cnt (b := false) h m.length (Nat.le_refl _)
  rw [List.take_length] at hf
  unfold partK
  cases hb : bitAt ws p with
  | false =>
    rw [hb] at hl hq hc
    rw [dnW_false, List.getD_eq_getElem?_getD, List.getElem?_append_left (by rw [hf]; exact hc.2 hp), ← List.getD_eq_getElem?_getD, ← hl]
    exact halfK_cut hp hq.symm
  | true =>
    rw [hb] at hl hq hc
    rw [dnW_true, List.getD_eq_getElem?_getD, List.getElem?_append_right (by rw [hf]; omega), hf, Nat.add_sub_cancel_left, ← List.getD_eq_getElem?_getD, ← hl]
    exact halfK_cut hp hq.symm
theorem wordsK_bit {lv : Nat} {l : List Int} (t : Nat) : ∀ q, q < (nowK lv l t).length → bitAt (wordsK lv l t) q = bitK (lv - 1 - t) ((nowK lv l t).getD q 0) := fun q hq => by
  have hn := nowK_len lv l t
  unfold wordsK
  rw [packW_bit _ _ _ (by omega), decide_eq_true (by omega), Bool.true_and]
  have := bitsK_at (k := lv - 1 - t) hq
  rw [List.getD_eq_getElem?_getD, this]; rfl
theorem levsK_at (lv : Nat) (l : List Int) : ∀ T t, t < T → (levsK lv l T).getD t [] = wordsK lv l t
  | 0, t, h => absurd h (by omega)
  | T + 1, t, h => by
    rw [levsK_succ, List.getD_eq_getElem?_getD]
    by_cases hT : t = T
    · subst hT
      rw [List.getElem?_append_right (by rw [levsK_len]; exact Nat.le_refl _), levsK_len, Nat.sub_self]; rfl
    · rw [List.getElem?_append_left (by rw [levsK_len]; omega), ← List.getD_eq_getElem?_getD, levsK_at lv l T t (by omega)]
theorem bitK_toNat {k : Nat} {x : Int} (h : 0 ≤ x) : (bitK k x).toNat = x.toNat / 2 ^ k % 2 := by
  obtain ⟨y, rfl⟩ : ∃ y : Nat, x = y := ⟨x.toNat, by omega⟩
  have e : ((y : Int) / 2 ^ k % 2) = ((y / 2 ^ k % 2 : Nat) : Int) := by push_cast; rfl
  rw [Int.toNat_natCast]
  unfold bitK
  rw [e]
  have h2 : y / 2 ^ k % 2 = 0 ∨ y / 2 ^ k % 2 = 1 := by omega
  rcases h2 with h2 | h2 <;> rw [h2] <;> rfl
theorem wave_back {lv : Nat} {l : List Int} (hok : ∀ j, j < l.length → okZ lv (l.getD j 0)) : ∀ t, t ≤ lv → ∀ j, j < l.length → (nowK lv l t).getD (posW l.length (levsK lv l lv) t j) 0 = l.getD j 0 ∧ valW l.length (levsK lv l lv) t j = (l.getD j 0).toNat / 2 ^ (lv - t)
  | 0, _, j, hj => by
    obtain ⟨h0, h1⟩ := hok j hj
    rw [nowK_0, posW_0, valW_0, Nat.sub_zero]
    refine ⟨rfl, (Nat.div_eq_of_lt ?_).symm⟩
    have : ((l.getD j 0).toNat : Int) < ((2 ^ lv : Nat) : Int) := by push_cast; omega
    exact_mod_cast this
  | t + 1, ht, j, hj => by
    obtain ⟨h1, h2⟩ := wave_back hok t (by omega) j hj
    have hp := posW_lt (rows := levsK lv l lv) hj t
    have hn := nowK_len lv l t
    have hw := levsK_at lv l lv t (by omega)
    have hbit := wordsK_bit (lv := lv) (l := l) t
    have hpart := partK_at hbit (by omega : posW l.length (levsK lv l lv) t j < _)
    refine ⟨?_, ?_⟩
    · rw [nowK_succ, posW_succ, hw]
      rw [hn] at hpart
      rw [hpart, h1]
    · rw [valW_succ, hw, hbit _ (by omega), h1, h2, bitK_toNat (hok j hj).1]
      have e : lv - t = (lv - (t + 1)) + 1 := by omega
      have e2 : lv - 1 - t = lv - (t + 1) := by omega
      rw [e, e2, Nat.pow_succ, ← Nat.div_div_eq_div_mul]
      omega
theorem wave_val {lv : Nat} {l : List Int} (hok : ∀ j, j < l.length → okZ lv (l.getD j 0)) {j : Nat} (hj : j < l.length) : ((valW l.length (levsK lv l lv) lv j : Nat) : Int) = l.getD j 0 := by
  have h := (wave_back hok lv (Nat.le_refl _) j hj).2
  rw [Nat.sub_self, Nat.pow_zero, Nat.div_one] at h
  rw [h]; have := (hok j hj).1; omega
/-- The rows of a wave that was made. -/
def madeRows (lv : Nat) (l : List Int) : List (Int × List Nat) := (levsK lv l lv).map fun ws => ((l.length : Int), ws)
theorem madeRows_len (lv : Nat) (l : List Int) : (madeRows lv l).length = lv := by unfold madeRows; rw [List.length_map, levsK_len]
theorem madeRows_rows (lv : Nat) (l : List Int) : rowsW (madeRows lv l) = levsK lv l lv := by
  unfold madeRows rowsW; rw [List.map_map]; conv => rhs; rw [← List.map_id (levsK lv l lv)]
  exact List.map_congr_left fun _ _ => rfl
theorem madeRows_at (lv : Nat) (l : List Int) {t : Nat} (h : t < lv) : (madeRows lv l).getD t (0, []) = ((l.length : Int), wordsK lv l t) := by
  have hw := levsK_at lv l lv t h
  unfold madeRows
  rw [List.getD_eq_getElem?_getD] at hw ⊢
  rw [List.getElem?_map, List.getElem?_eq_getElem (by rw [levsK_len]; exact h)] at *
  simp only [Option.map_some, Option.getD_some] at hw ⊢
  rw [hw]
theorem madeRows_lenW {lv : Nat} (l : List Int) (h : 0 < lv) : lenW (madeRows lv l) = (l.length : Int) := by rw [lenW_eq, madeRows_at lv l h]
theorem madeRows_may {lv : Nat} {l : List Int} (h0 : 0 < lv) (h : lv ≤ 21) (hl : l.length ≤ 300) : MayWave (madeRows lv l) := by
  refine ⟨by rw [madeRows_len]; exact h, by rw [madeRows_lenW l h0]; omega, fun i hi => ?_⟩
  rw [madeRows_len] at hi
  rw [okW_iff, madeRows_at lv l hi, madeRows_lenW l h0]
  refine ⟨?_, rfl⟩
  have hn := nowK_len lv l i
  have := packW_may (bitsK (lv - 1 - i) (nowK lv l i)) (by rw [bitsK_len]; omega)
  rw [bitsK_len, hn] at this
  unfold wordsK
  exact this
theorem made_below {lv : Nat} {l : List Int} (hok : ∀ j, j < l.length → okZ lv (l.getD j 0)) {a b : Nat} (hab : a ≤ b) (hb : b ≤ l.length) (x : Int) : (sW (madeRows lv l) l.length a b).countP (fun z => decide (z < x)) = countN (fun j => decide (a ≤ j ∧ j < b) && decide (l.getD j 0 < x)) l.length := by
  unfold sW
  rw [(sortI_perm _).countP_eq, segW_count _ hab hb, madeRows_rows, madeRows_len]
  unfold countN
  refine List.countP_congr fun j hj => ?_
  rw [wave_val hok (List.mem_range.1 hj)]
theorem made_sorted {lv : Nat} {l : List Int} (hok : ∀ j, j < l.length → okZ lv (l.getD j 0)) {a b : Nat} (hab : a ≤ b) (hb : b ≤ l.length) : sW (madeRows lv l) l.length a b = sortI ((l.drop a).take (b - a)) := by
  rw [sW_def, madeRows_rows, madeRows_len]
  congr 1
  refine List.ext_getElem? fun u => ?_
  by_cases hu : u < b - a
  · rw [segW_get hu, List.getElem?_take, if_pos hu, List.getElem?_drop]
    have hj : a + u < l.length := by omega
    have hv := wave_val hok hj
    unfold toInts tab
    rw [List.getElem?_map, List.getElem?_map, List.getElem?_range hj, List.getElem?_eq_getElem hj]
    simp only [Option.map_some]
    rw [hv, List.getD_eq_getElem?_getD, List.getElem?_eq_getElem hj]; rfl
  · rw [List.getElem?_eq_none (by rw [segW_length hab hb]; omega), List.getElem?_eq_none (by rw [List.length_take, List.length_drop]; omega)]
end Go.Dam
