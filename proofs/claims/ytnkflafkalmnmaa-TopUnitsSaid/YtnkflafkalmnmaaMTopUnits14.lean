/-
  The plain law of klee's sweep: the depths after each border as a play of one operation tells them, where a border's rows stand, and how great the sums may be. Conditions: none.
-/
import Derived.Test.YtnkflafkalmnmaaMTopUnits00
import Derived.Test.YtnkflafkalmnmaaMTopUnits13
namespace Go.Dam.Klee
open Go Go.Dam
set_option linter.unusedVariables false
/-- The depths of all rows, after i borders. -/
def rowD (bs : List Bd) (d : List Int) (i : Nat) : List Int := d.map (so bs i)
theorem rowD_len (bs : List Bd) (d : List Int) (i : Nat) : (rowD bs d i).length = d.length := by unfold rowD; simp
theorem rowD_at (bs : List Bd) {d : List Int} (i : Nat) {k : Nat} (h : k < d.length) : (rowD bs d i).getD k 0 = so bs i (d.getD k 0) := by
  unfold rowD
  rw [List.getD_eq_getElem?_getD, List.getElem?_map, List.getElem?_eq_getElem h, List.getD_eq_getElem?_getD, List.getElem?_eq_getElem h]; rfl
theorem rowD_0 (bs : List Bd) (d : List Int) : rowD bs d 0 = List.replicate d.length 0 := by
  refine List.ext_getElem (by simp [rowD_len]) fun k h1 h2 => ?_
  have := rowD_at bs (d := d) 0 (k := k) (by rw [← rowD_len bs d 0]; exact h1)
  rw [List.getD_eq_getElem?_getD, List.getElem?_eq_getElem h1] at this
  rw [List.getElem_replicate]
  simpa [so_0] using this
/-- A border of the rectangles. -/
def BdOk (l : List Int) (n : Nat) (b : Bd) : Prop := ∃ k, k < n ∧ b.2.1 = l.getD (k * 4 + 1) 0 ∧ b.2.2.1 = l.getD (k * 4 + 3) 0 + 1 ∧ ((b.1 = l.getD (k * 4) 0 ∧ b.2.2.2 = 1) ∨ (b.1 = l.getD (k * 4 + 2) 0 + 1 ∧ b.2.2.2 = -1))
theorem bds_ok {l : List Int} {b : Bd} : ∀ {n : Nat}, b ∈ bdsOf l n → BdOk l n b
  | 0, h => by simp [bdsOf] at h
  | n + 1, h => by
    rw [bdsOf, List.mem_append] at h
    rcases h with h | h
    · obtain ⟨k, hk, e⟩ := bds_ok h; exact ⟨k, by omega, e⟩
    · simp only [List.mem_cons, List.not_mem_nil, or_false] at h
      rcases h with rfl | rfl
      · exact ⟨n, by omega, rfl, rfl, .inl ⟨rfl, rfl⟩⟩
      · exact ⟨n, by omega, rfl, rfl, .inr ⟨rfl, rfl⟩⟩
theorem BdOk.by_ {l : List Int} {n : Nat} {b : Bd} (h : BdOk l n b) : b.2.2.2 = 1 ∨ b.2.2.2 = -1 := by
  obtain ⟨k, _, _, _, h | h⟩ := h
  · exact .inl h.2
  · exact .inr h.2
theorem so_bd {bs : List Bd} (h : ∀ b ∈ bs, b.2.2.2 = 1 ∨ b.2.2.2 = -1) (y : Int) : ∀ i : Nat, i ≤ bs.length → -(i : Int) ≤ so bs i y ∧ so bs i y ≤ i
  | 0, _ => by rw [so_0]; omega
  | i + 1, hi => by
    have ih := so_bd h y i (by omega)
    rw [so_s (by omega)]
    have hb := h _ (List.getElem_mem (l := bs) (n := i) (by omega))
    have e : bs.getD i (0, 0, 0, 0) = bs[i] := by rw [List.getD_eq_getElem?_getD, List.getElem?_eq_getElem (by omega)]; rfl
    rw [e]
    have : -1 ≤ vY y bs[i] ∧ vY y bs[i] ≤ 1 := by
      unfold vY
      split <;> omega
    push_cast
    omega
/-- One operation more. -/
theorem row_next {bs : List Bd} {d : List Int} {i lo hi : Nat} (hs : ∀ a b, a < b → b < d.length → d.getD a 0 < d.getD b 0) (hi0 : i < bs.length) (hlh : lo < hi) (hhi : hi < d.length)
    (elo : d.getD lo 0 = (bs.getD i (0, 0, 0, 0)).2.1) (ehi : d.getD hi 0 = (bs.getD i (0, 0, 0, 0)).2.2.1) (hby : (bs.getD i (0, 0, 0, 0)).2.2.2 = 1 ∨ (bs.getD i (0, 0, 0, 0)).2.2.2 = -1) :
    rowT (rowD bs d i) [1, (lo : Int), (hi : Int) - 1, (bs.getD i (0, 0, 0, 0)).2.2.2] (rowD bs d i).length 1 = rowD bs d (i + 1) := by
  generalize hb : bs.getD i (0, 0, 0, 0) = b at *
  have hc : coordOk b.2.2.2 = true := by
    rcases hby with e | e <;> rw [e] <;> simp [coordOk]
  refine List.ext_getElem (by rw [rowT_len, rowD_len, rowD_len]) fun k h1 h2 => ?_
  have hk : k < d.length := by rw [← rowD_len bs d (i + 1)]; exact h2
  have e1 := rowT_at (rowD bs d i) [1, (lo : Int), (hi : Int) - 1, b.2.2.2] (rowD bs d i).length 1 (i := k) (by rw [rowD_len]; exact hk)
  have e2 := rowD_at bs (d := d) (i + 1) hk
  rw [List.getD_eq_getElem?_getD, List.getElem?_eq_getElem h1] at e1
  rw [List.getD_eq_getElem?_getD, List.getElem?_eq_getElem h2] at e2
  simp only [Option.getD_some] at e1 e2
  rw [e1, e2]
  have hbad : badT [1, (lo : Int), (hi : Int) - 1, b.2.2.2] (rowD bs d i).length 0 = 0 := by
    unfold badT
    show opBad ((rowD bs d i).length : Int) 1 (lo : Int) ((hi : Int) - 1) b.2.2.2 = 0
    exact opBad_ok (by omega) (by rw [rowD_len, hc]; intro h; rcases h with h | h | h | ⟨_, h⟩ <;> first | omega | cases h)
  rw [nowT_yes _ _ _ hbad]
  show opF 1 (lo : Int) ((hi : Int) - 1) b.2.2.2 (nowT (rowD bs d i) [1, (lo : Int), (hi : Int) - 1, b.2.2.2] (rowD bs d i).length 0) k = _
  rw [so_s hi0, hb]
  by_cases hin : lo ≤ k ∧ k < hi
  · rw [opF_add (by omega), nowT_0, rowD_at bs i hk]
    unfold vY
    rw [if_pos]
    constructor
    · rw [← elo]
      rcases Nat.lt_or_ge lo k with h | h
      · have := hs lo k h hk; omega
      · rw [show k = lo from by omega]; omega
    · rw [← ehi]; exact hs k hi hin.2 hhi
  · rw [opF_out (by omega), nowT_0, rowD_at bs i hk]
    unfold vY
    rw [if_neg, Int.add_zero]
    rintro ⟨h3, h4⟩
    apply hin
    constructor
    · rcases Nat.lt_or_ge k lo with h | h
      · have := hs k lo h (by omega); omega
      · exact h
    · rcases Nat.lt_or_ge k hi with h | h
      · exact h
      · rcases Nat.lt_or_ge hi k with h5 | h5
        · have := hs hi k h5 hk; omega
        · rw [show k = hi from by omega] at h4; omega
theorem cutRow_vals {l v : List Int} (h : ValsR l v) : CutRow l v := ⟨fun i hi => by have := h.lt_at (i := i) (j := i + 1) (by omega) hi; omega, h.2⟩
theorem cutRow_sort (l : List Int) : CutRow l (sortI l) := ⟨fun i hi => by
    have := List.pairwise_iff_getElem.1 (sortI_sorted l) i (i + 1) (by omega) hi (by omega)
    rw [List.getD_eq_getElem?_getD, List.getD_eq_getElem?_getD, List.getElem?_eq_getElem (by omega), List.getElem?_eq_getElem hi]
    simpa using this, fun z => (sortI_perm l).mem_iff⟩
theorem ind_bd (x : Int) : 0 ≤ ind x ∧ ind x ≤ 1 := by unfold ind; split <;> omega
theorem ind_pos {x : Int} (h : 0 < x) : ind x = 1 := by unfold ind; rw [if_pos h]
theorem ind_neg {x : Int} (h : ¬ 0 < x) : ind x = 0 := by unfold ind; rw [if_neg h]
theorem rowS_bd {m d : List Int} (h : CutRow m d) (f : Int → Int) : ∀ k, k < d.length → 0 ≤ rowS f d k ∧ rowS f d k ≤ d.getD k 0 - d.getD 0 0
  | 0, _ => by rw [rowS_0]; omega
  | k + 1, hk => by
    have ih := rowS_bd h f k (by omega)
    have h1 := h.1 k hk
    rw [rowS_s]
    rcases Int.lt_or_le 0 (f (d.getD k 0)) with h2 | h2
    · rw [ind_pos h2, Int.mul_one]; omega
    · rw [ind_neg (by omega), Int.mul_zero]; omega
theorem mul_bd {a b M : Int} (h1 : 0 ≤ a) (h2 : a ≤ M) (h3 : 0 ≤ b) (h4 : b ≤ M) : 0 ≤ a * b ∧ a * b ≤ M * M := ⟨Int.mul_nonneg h1 h3, Int.mul_le_mul h2 h4 h3 (by omega)⟩
/-- Cuts of rectangles that are not refused lie near. -/
def NearAll (c : List Int) : Prop := ∀ z ∈ c, -1048577 ≤ z ∧ z ≤ 1048577
theorem NearAll.at_ {c : List Int} (h : NearAll c) {k : Nat} (hk : k < c.length) : -1048577 ≤ c.getD k 0 ∧ c.getD k 0 ≤ 1048577 := h _ (getD_mem hk)
theorem cell_bd {m d : List Int} (h : CutRow m d) (hn : NearAll d) {k : Nat} (hk : k + 1 < d.length) {x : Int} (hx : 0 ≤ x ∧ x ≤ 2097154) : 0 ≤ x * (d.getD (k + 1) 0 - d.getD k 0) ∧ x * (d.getD (k + 1) 0 - d.getD k 0) ≤ 4398054899716 := by
  have h1 := h.1 k hk
  have a := hn.at_ (k := k) (by omega)
  have b := hn.at_ hk
  exact mul_bd (M := 2097154) hx.1 hx.2 (by omega) (by omega)
theorem part_bd {m d : List Int} (h : CutRow m d) (hn : NearAll d) (f : Int → Int) {k : Nat} (hk : k < d.length) {x : Int} (hx : 0 ≤ x ∧ x ≤ 2097154) : 0 ≤ x * rowS f d k ∧ x * rowS f d k ≤ 4398054899716 := by
  have h1 := rowS_bd h f k hk
  have a := hn.at_ hk
  have b := hn.at_ (k := 0) (by omega)
  exact mul_bd (M := 2097154) hx.1 hx.2 h1.1 (by omega)
theorem part_bd' {m d : List Int} (h : CutRow m d) (hn : NearAll d) (f : Int → Int) {x : Int} (hx : 0 ≤ x ∧ x ≤ 2097154) : 0 ≤ x * rowS f d (d.length - 1) ∧ x * rowS f d (d.length - 1) ≤ 4398054899716 := by
  by_cases hd : d = []
  · rw [hd]; show 0 ≤ x * 0 ∧ x * 0 ≤ _; rw [Int.mul_zero]; decide
  · exact part_bd h hn f (by have := List.length_pos_iff.2 hd; omega) hx
theorem gridS_bd {m m' c d : List Int} (h : CutRow m c) (h' : CutRow m' d) (hn : NearAll c) (hn' : NearAll d) (f : Int → Int → Int) : ∀ k : Nat, k < c.length → 0 ≤ gridS f c d k ∧ gridS f c d k ≤ k * 4398054899716
  | 0, _ => by rw [gridS_0]; omega
  | k + 1, hk => by
    have ih := gridS_bd h h' hn hn' f k (by omega)
    have h1 := h.1 k hk
    have a := hn.at_ (k := k) (by omega)
    have b := hn.at_ hk
    have p := part_bd' h' hn' (f (c.getD k 0)) (x := c.getD (k + 1) 0 - c.getD k 0) (by omega)
    rw [gridS_s]
    push_cast
    omega
theorem areaS_bd {m d : List Int} {bs : List Bd} (h : CutRow m d) (hn : NearAll d) (hs : SortX bs) (hx : ∀ i, i < bs.length → -1048577 ≤ bx bs i ∧ bx bs i ≤ 1048577) : ∀ k : Nat, k ≤ bs.length → 0 ≤ areaS bs d k ∧ areaS bs d k ≤ k * 4398054899716
  | 0, _ => by rw [areaS_0]; omega
  | 1, _ => by rw [areaS_1]; omega
  | k + 2, hk => by
    have ih := areaS_bd h hn hs hx (k + 1) (by omega)
    have h1 := hs k (k + 1) (by omega) (by omega)
    have a := hx k (by omega)
    have b := hx (k + 1) (by omega)
    have p := part_bd' h hn (so bs (k + 1)) (x := bx bs (k + 1) - bx bs k) (by omega)
    rw [areaS_s]
    push_cast at *
    omega
end Go.Dam.Klee
