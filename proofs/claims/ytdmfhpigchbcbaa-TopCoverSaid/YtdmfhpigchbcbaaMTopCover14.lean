/-
  Texts of one claim behind each other. Conditions: none of its own.
-/
import Derived.Test.YtdmfhpigchbcbaaMTopCover13
import Derived.Test.YtdmfhpigchbcbaaMTopCover00
import Derived.Test.YtdmfhpigchbcbaaMTopCover06
/-
  Plain facts of a wave that may be: its rows, its length, what is read at a place. Conditions: none; no program in sight.
-/
namespace Go.Dam
open Go Go.RowKit
set_option linter.unusedVariables false
/-- The words of the rows. -/
def rowsW (rs : List (Int × List Nat)) : List (List Nat) := rs.map (·.2)
theorem rowsW_at (rs : List (Int × List Nat)) (k : Nat) : (rowsW rs).getD k [] = (rs.getD k (0, [])).2 := by
  unfold rowsW
  rcases Nat.lt_or_ge k rs.length with h | h
  · simp [h]
  · simp [h]
/-- How many numbers, as a Nat. -/
theorem mayWave_len {rs : List (Int × List Nat)} (h : MayWave rs) : ∃ n : Nat, lenW rs = n ∧ n ≤ 300 ∧ (rs.length = 0 → n = 0) ∧ rs.length ≤ 21 ∧ ∀ k, k < rs.length → (rs.getD k (0, [])).1 = n ∧ mayBits n ((rowsW rs).getD k []) = true := by
  obtain ⟨h1, h2, h3⟩ := h
  have h0 : 0 ≤ lenW rs := by
    rcases Nat.eq_zero_or_pos rs.length with h | h
    · rw [List.length_eq_zero_iff.1 h, lenW_0]; exact Int.le_refl _
    · obtain ⟨a, b⟩ := okW_iff.1 (h3 0 h)
      rw [← b]; exact (may_facts a).1
  obtain ⟨n, hn⟩ := Int.eq_ofNat_of_zero_le h0
  refine ⟨n, hn, by omega, fun h => ?_, h1, fun k hk => ?_⟩
  · have := hn
    rw [List.length_eq_zero_iff.1 h, lenW_0] at this
    omega
  · obtain ⟨a, b⟩ := okW_iff.1 (h3 k hk)
    rw [rowsW_at]
    rw [b, hn] at a
    exact ⟨b.trans hn, a⟩
/-- The number at j. -/
def numW (rs : List (Int × List Nat)) (j : Nat) : Nat := valW (lenW rs).toNat (rowsW rs) rs.length j
theorem numW_eq {rs : List (Int × List Nat)} {n : Nat} (h : lenW rs = n) (j : Nat) : numW rs j = valW n (rowsW rs) rs.length j := by unfold numW; rw [h]; rfl
/-- What At answers. -/
def WAtR (rs : List (Int × List Nat)) (i r cc : Int) : Prop :=
  (¬ MayWave rs ∧ r = 0 ∧ cc = 4) ∨ (MayWave rs ∧ (i < 0 ∨ (0 ≤ i ∧ lenW rs ≤ i)) ∧ r = 0 ∧ cc = 2) ∨ (MayWave rs ∧ ∃ j : Nat, i = j ∧ (j : Int) < lenW rs ∧ r = ((numW rs j : Nat) : Int) ∧ cc = 0)
theorem WAtR.ex (rs : List (Int × List Nat)) (i : Int) : ∃ r cc, WAtR rs i r cc := by
  by_cases hm : MayWave rs
  · by_cases h : i < 0
    · exact ⟨_, _, .inr (.inl ⟨hm, .inl h, rfl, rfl⟩)⟩
    · by_cases h2 : lenW rs ≤ i
      · exact ⟨_, _, .inr (.inl ⟨hm, .inr ⟨by omega, h2⟩, rfl, rfl⟩)⟩
      · exact ⟨_, _, .inr (.inr ⟨hm, i.toNat, by omega, by omega, rfl, rfl⟩)⟩
  · exact ⟨_, _, .inl ⟨hm, rfl, rfl⟩⟩
theorem valW_bound {n k j : Nat} {rows : List (List Nat)} (hk : k ≤ 21) : valW n rows k j < 2097152 := by
  have h1 := valW_lt n rows j k
  have h2 : 2 ^ k ≤ 2 ^ 21 := Nat.pow_le_pow_right (by decide) hk
  omega
attribute [irreducible] numW rowsW
end Go.Dam

/-
  Plain laws of orders: the inverse, one order behind another, the number of an order. Conditions: none; no program in sight.
-/
namespace Go.Dam
set_option linter.unusedVariables false
/-- A table of numbers. -/
def tab (f : Nat → Nat) (n : Nat) : List Nat := (List.range n).map f
theorem tab_length (f : Nat → Nat) (n : Nat) : (tab f n).length = n := by simp [tab]
theorem tab_at {f : Nat → Nat} {n i : Nat} (h : i < n) : (tab f n).getD i 0 = f i := by simp [tab, h]
theorem tab_congr {f g : Nat → Nat} {n : Nat} (h : ∀ j, j < n → f j = g j) : tab f n = tab g n := by
  unfold tab
  exact List.map_congr_left fun j hj => h j (List.mem_range.1 hj)
theorem tab_set {f g : Nat → Nat} {n p x : Nat} (hp : g p = x) (h : ∀ j, j < n → j ≠ p → g j = f j) : (tab f n).set p x = tab g n := by
  apply List.ext_getElem
  · simp [tab]
  · intro j h1 h2
    have hj : j < n := by simpa [tab] using h2
    rw [List.getElem_set]
    by_cases e : p = j
    · subst e; simp [tab, hp]
    · rw [if_neg e]; simp [tab, h j hj (Ne.symm e)]
theorem tab_zero (n : Nat) : toInts (tab (fun _ => 0) n) = List.replicate n 0 := by
  rw [toInts_eq]
  apply List.ext_getElem
  · simp [tab]
  · intro j h1 h2; simp [tab]
theorem tab_snoc (f : Nat → Nat) (n : Nat) : tab f (n + 1) = tab f n ++ [f n] := by simp [tab, List.range_succ]
theorem tab_nil (f : Nat → Nat) : tab f 0 = [] := rfl
theorem tab_wf {f : Nat → Nat} {n b : Nat} (h : ∀ j, j < n → f j < b) (hb : b ≤ 9223372036854775808) : ∀ z ∈ toInts (tab f n), (Lit.int .i64 z).wf = true := by
  intro z hz
  rw [toInts_eq] at hz
  obtain ⟨k, hk, rfl⟩ := List.mem_map.1 hz
  unfold tab at hk
  obtain ⟨j, hj, rfl⟩ := List.mem_map.1 hk
  have := h j (List.mem_range.1 hj)
  exact int_wf (by unfold I64; omega)
theorem toInts_set (p : List Nat) (i k : Nat) : (toInts p).set i (k : Int) = toInts (p.set i k) := by rw [toInts_eq, toInts_eq, List.map_set]
/-- The inverse while it is found. -/
def invF (p : List Nat) (i y : Nat) : Nat := if p.idxOf y < i then p.idxOf y else 0
theorem invF_zero (p : List Nat) (n : Nat) : tab (invF p 0) n = tab (fun _ => 0) n := tab_congr fun j _ => by simp [invF]
theorem idxOf_at {p : List Nat} (h : p.Nodup) {i : Nat} (hi : i < p.length) : p.idxOf (p.getD i 0) = i := by
  have e : p.getD i 0 = p[i] := by simp [hi]
  rw [e, h.idxOf_getElem i hi]
theorem invF_step {p : List Nat} (h : p.Nodup) {i n : Nat} (hi : i < p.length) : (tab (invF p i) n).set (p.getD i 0) i = tab (invF p (i + 1)) n := by
  have h1 := idxOf_at h hi
  refine tab_set (by unfold invF; rw [h1, if_pos (by omega)]) fun j hj hne => ?_
  have : p.idxOf j ≠ i := fun e => by
    by_cases hm : j ∈ p
    · have hlt := List.idxOf_lt_length_iff.2 hm
      have := List.getElem_idxOf hlt
      apply hne
      rw [show p.getD i 0 = p[i] from by simp [hi]]
      subst e; exact this.symm
    · have := List.idxOf_eq_length hm
      omega
  unfold invF
  by_cases h3 : p.idxOf j < i
  · rw [if_pos h3, if_pos (by omega)]
  · rw [if_neg h3, if_neg (by omega)]
theorem order_mem {l : List Int} {p : List Nat} (h : IsOrder l p) {y : Nat} (hy : y < p.length) : y ∈ p := h.perm.mem_iff.2 (List.mem_range.2 hy)
theorem invF_end {l : List Int} {p : List Nat} (h : IsOrder l p) : tab (invF p p.length) p.length = tab p.idxOf p.length := by
  refine tab_congr fun j hj => ?_
  unfold invF
  rw [if_pos (List.idxOf_lt_length_iff.2 (order_mem h hj))]
/-- Where a number stands first: the search's answer. -/
theorem place_idx {l : List Int} {p : List Nat} (h : IsOrder l p) {y : Nat} (hy : y < p.length) {r : Int} (hr : (∃ i : Nat, r = i ∧ i < l.length ∧ l.getD i 0 = (y : Int) ∧ ∀ j, j < i → l.getD j 0 ≠ (y : Int)) ∨ (r = -1 ∧ ∀ j, j < l.length → l.getD j 0 ≠ (y : Int))) : r = ((p.idxOf y : Nat) : Int) := by
  have hm := order_mem h hy
  have hlt := List.idxOf_lt_length_iff.2 hm
  have he := List.getElem_idxOf hlt
  have hl := order_len h
  rcases hr with ⟨i, rfl, hi, hz, _⟩ | ⟨rfl, hn⟩
  · rw [h.1, toInts_at (by omega)] at hz
    have : p.getD i 0 = y := by omega
    rw [← this, idxOf_at h.2.1 (by omega)]
  · exfalso
    refine hn (p.idxOf y) (by omega) ?_
    rw [h.1, toInts_at hlt]
    simp [hlt]
theorem order_at {l : List Int} {p : List Nat} (h : IsOrder l p) {i : Nat} (hi : i < p.length) : l.getD i 0 = ((p.getD i 0 : Nat) : Int) ∧ p.getD i 0 < p.length := by
  have e : p.getD i 0 = p[i] := by simp [hi]
  refine ⟨by rw [h.1, toInts_at hi], ?_⟩
  rw [e]; exact h.2.2 _ (List.getElem_mem hi)
/-- Those behind place i that are less than what stands there. -/
def lessN (p : List Nat) (i : Nat) : Nat := ((p.drop (i + 1)).filter fun y => decide (y < p.getD i 0)).length
/-- .. among the first k behind. -/
def lessTo (p : List Nat) (i k : Nat) : Nat := (((p.drop (i + 1)).take k).filter fun y => decide (y < p.getD i 0)).length
theorem lessTo_0 (p : List Nat) (i : Nat) : lessTo p i 0 = 0 := by simp [lessTo]
theorem lessTo_yes {p : List Nat} {i k : Nat} (hk : i + 1 + k < p.length) (h : p.getD (i + 1 + k) 0 < p.getD i 0) : lessTo p i (k + 1) = lessTo p i k + 1 := by
  have e : p.getD (i + 1 + k) 0 = p[i + 1 + k] := by simp [hk]
  unfold lessTo
  rw [List.take_add_one, List.filter_append, List.length_append, List.getElem?_drop, List.getElem?_eq_getElem hk]
  rw [e] at h
  generalize p.getD i 0 = x at *
  generalize p[i + 1 + k] = y at *
  simp [h]
theorem lessTo_no {p : List Nat} {i k : Nat} (hk : i + 1 + k < p.length) (h : ¬ p.getD (i + 1 + k) 0 < p.getD i 0) : lessTo p i (k + 1) = lessTo p i k := by
  have e : p.getD (i + 1 + k) 0 = p[i + 1 + k] := by simp [hk]
  unfold lessTo
  rw [List.take_add_one, List.filter_append, List.length_append, List.getElem?_drop, List.getElem?_eq_getElem hk]
  rw [e] at h
  generalize p.getD i 0 = x at *
  generalize p[i + 1 + k] = y at *
  simp; omega
theorem lessTo_end {p : List Nat} {i : Nat} : lessTo p i (p.length - (i + 1)) = lessN p i := by
  unfold lessTo lessN
  rw [List.take_of_length_le (by simp)]
theorem lessTo_le (p : List Nat) (i k : Nat) : lessTo p i k ≤ k := by
  unfold lessTo
  refine Nat.le_trans (List.length_filter_le _ _) ?_
  rw [List.length_take]; omega
theorem lessN_lt {p : List Nat} {i : Nat} (hi : i < p.length) : lessN p i + i < p.length := by
  unfold lessN
  have := List.length_filter_le (fun y => decide (y < p.getD i 0)) (p.drop (i + 1))
  rw [List.length_drop] at this; omega
/-- The number, by the places. -/
def numTo (p : List Nat) : Nat → Nat
  | 0 => 0
  | i + 1 => numTo p i * (p.length - i) + lessN p i
theorem numTo_0 (p : List Nat) : numTo p 0 = 0 := rfl
theorem numTo_succ (p : List Nat) (i : Nat) : numTo p (i + 1) = numTo p i * (p.length - i) + lessN p i := rfl
theorem numTo_lt {p : List Nat} : ∀ {i : Nat}, i ≤ p.length → (numTo p i + 1) * fact (p.length - i) ≤ fact p.length
  | 0, _ => by rw [numTo_0]; simp
  | i + 1, h => by
    have ih := numTo_lt (p := p) (i := i) (by omega)
    have h2 := lessN_lt (p := p) (i := i) (by omega)
    have h3 := fact_split (n := p.length) (i := i) (by omega)
    rw [show p.length - (i + 1) = p.length - 1 - i from by omega, numTo_succ]
    rw [h3] at ih
    have h4 : numTo p i * (p.length - i) + lessN p i + 1 ≤ (numTo p i + 1) * (p.length - i) := by rw [Nat.add_mul]; omega
    calc _ ≤ (numTo p i + 1) * (p.length - i) * fact (p.length - 1 - i) := Nat.mul_le_mul_right _ h4
      _ = (numTo p i + 1) * ((p.length - i) * fact (p.length - 1 - i)) := by rw [Nat.mul_assoc]
      _ ≤ _ := ih
theorem numTo_fact {p : List Nat} {i : Nat} (h : i < p.length) : numTo p (i + 1) * fact (p.length - 1 - i) = numTo p i * fact (p.length - i) + lessN p i * fact (p.length - 1 - i) := by
  rw [numTo_succ, fact_split h, Nat.add_mul, Nat.mul_assoc]
/-- Of the first i those that are less than y are less than y all told, but for those free. -/
theorem less_free {l : List Int} {p : List Nat} (h : IsOrder l p) {i : Nat} (hi : i < p.length) : (freeN (p.take i) (p.getD i 0)).length = lessN p i := by
  have e : p.getD i 0 = p[i] := by simp [hi]
  have hx : p.getD i 0 < p.length := (order_at h hi).2
  have hp := h.perm
  have hni := nodup_at h.2.1 hi
  rw [← e] at hni
  have hsplit : p = p.take i ++ p.getD i 0 :: p.drop (i + 1) := by rw [e, List.getElem_cons_drop, List.take_append_drop]
  unfold lessN
  generalize hxx : p.getD i 0 = x at *
  have hd := h.2.1
  rw [hsplit, List.nodup_append] at hd
  unfold freeN
  have h1 : ((List.range x).filter fun y => !(p.take i).contains y).Perm ((p.drop (i + 1)).filter fun y => decide (y < x)) := by
    apply (List.perm_ext_iff_of_nodup (List.nodup_range.filter _) ((List.nodup_cons.1 hd.2.1).2.filter _)).2
    intro a
    simp only [List.mem_filter, List.mem_range, Bool.not_eq_true', List.contains_eq_mem, decide_eq_false_iff_not, decide_eq_true_eq]
    constructor
    · rintro ⟨h1, h2⟩
      have h3 : a ∈ p := order_mem h (by omega)
      rw [hsplit] at h3
      rcases List.mem_append.1 h3 with h4 | h4
      · exact absurd h4 h2
      · rcases List.mem_cons.1 h4 with h5 | h5
        · omega
        · exact ⟨h5, h1⟩
    · rintro ⟨h1, h2⟩
      refine ⟨h2, fun h3 => ?_⟩
      exact hd.2.2 a h3 a (List.mem_cons_of_mem _ h1) rfl
  exact h1.length_eq
/-- What Inverse answers. -/
def InvR (l r : List Int) (c : Int) : Prop := (PermF l c ∧ c ≠ 0 ∧ r = []) ∨ (PermF l 0 ∧ c = 0 ∧ ∃ p, IsOrder l p ∧ l.length ≤ 300 ∧ r = toInts (tab p.idxOf p.length))
theorem PermF.cases {l : List Int} {c : Int} (h : PermF l c) : c ≠ 0 ∨ (c = 0 ∧ PermF l 0 ∧ ∃ p, IsOrder l p ∧ l.length ≤ 300) := by
  rcases h with ⟨_, rfl⟩ | ⟨h1, h2, rfl⟩ | ⟨_, _, rfl⟩
  · exact .inl (by decide)
  · exact .inr ⟨rfl, .inr (.inl ⟨h1, h2, rfl⟩), by obtain ⟨p, hp⟩ := h2; exact ⟨p, hp, h1⟩⟩
  · exact .inl (by decide)
theorem InvR.ex (l : List Int) : ∃ r c, InvR l r c := by
  obtain ⟨c, hc⟩ := PermF.ex l
  rcases hc.cases with h | ⟨rfl, h, p, hp, hl⟩
  · exact ⟨_, _, .inl ⟨hc, h, rfl⟩⟩
  · exact ⟨_, _, .inr ⟨h, rfl, p, hp, hl, rfl⟩⟩
/-- What Then answers. -/
def ThenR (l m r : List Int) (c : Int) : Prop := (PermF l c ∧ c ≠ 0 ∧ r = []) ∨ (PermF l 0 ∧ PermF m c ∧ c ≠ 0 ∧ r = []) ∨ (PermF l 0 ∧ PermF m 0 ∧ l.length ≠ m.length ∧ c = 1 ∧ r = []) ∨
  (PermF l 0 ∧ PermF m 0 ∧ l.length = m.length ∧ c = 0 ∧ ∃ p q, IsOrder l p ∧ IsOrder m q ∧ l.length ≤ 300 ∧ r = toInts (tab (fun i => q.getD (p.getD i 0) 0) p.length))
theorem ThenR.ex (l m : List Int) : ∃ r c, ThenR l m r c := by
  obtain ⟨c, hc⟩ := PermF.ex l
  rcases hc.cases with h | ⟨rfl, h, p, hp, hl⟩
  · exact ⟨_, _, .inl ⟨hc, h, rfl⟩⟩
  · obtain ⟨d, hd⟩ := PermF.ex m
    rcases hd.cases with g | ⟨rfl, g, q, hq, hm⟩
    · exact ⟨_, _, .inr (.inl ⟨h, hd, g, rfl⟩)⟩
    · by_cases e : l.length = m.length
      · exact ⟨_, _, .inr (.inr (.inr ⟨h, g, e, rfl, p, q, hp, hq, hl, rfl⟩))⟩
      · exact ⟨_, _, .inr (.inr (.inl ⟨h, g, e, rfl, rfl⟩))⟩
/-- What Number answers. -/
def NumR (l : List Int) (x c : Int) : Prop := (PermF l c ∧ c ≠ 0 ∧ x = 0) ∨ (PermF l 0 ∧ 20 < l.length ∧ c = 2 ∧ x = 0) ∨ (PermF l 0 ∧ l.length ≤ 20 ∧ c = 0 ∧ ∃ p, IsOrder l p ∧ x = ((numTo p p.length : Nat) : Int))
theorem NumR.ex (l : List Int) : ∃ x c, NumR l x c := by
  obtain ⟨c, hc⟩ := PermF.ex l
  rcases hc.cases with h | ⟨rfl, h, p, hp, hl⟩
  · exact ⟨_, _, .inl ⟨hc, h, rfl⟩⟩
  · by_cases e : 20 < l.length
    · exact ⟨_, _, .inr (.inl ⟨h, e, rfl, rfl⟩)⟩
    · exact ⟨_, _, .inr (.inr ⟨h, by omega, rfl, p, hp, rfl⟩)⟩
attribute [irreducible] tab invF lessN lessTo numTo
end Go.Dam
