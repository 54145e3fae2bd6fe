/-
  Plain laws of orders and their numbers, no program in sight: the digits of a number, and which of those that are left they choose. Conditions: bounds on the numbers.
-/
import Derived.Test.YtaipnjoeejgnnaaBits
namespace Go.Dam
set_option linter.unusedVariables false
/-- How many orders n things have. -/
def fact : Nat → Nat
  | 0 => 1
  | n + 1 => (n + 1) * fact n
theorem fact_pos : ∀ n, 0 < fact n
  | 0 => by simp [fact]
  | n + 1 => Nat.mul_pos (by omega) (fact_pos n)
theorem fact_le {n m : Nat} (h : n ≤ m) : fact n ≤ fact m := by
  induction m with
  | zero => rw [show n = 0 from by omega]; exact Nat.le_refl _
  | succ m ih =>
    rcases Nat.lt_or_ge n (m + 1) with h1 | h1
    · exact Nat.le_trans (ih (by omega)) (Nat.le_mul_of_pos_left _ (by omega))
    · obtain rfl : n = m + 1 := by omega
      exact Nat.le_refl _
theorem fact_20 {n : Nat} (h : n ≤ 20) : fact n ≤ 2432902008176640000 := Nat.le_trans (fact_le h) (by decide)
/-- The digit at place i, of n. -/
def digN (n num i : Nat) : Nat := num / fact (n - 1 - i) % (n - i)
/-- Those below m that are not among the chosen ones. -/
def freeN (o : List Nat) (m : Nat) : List Nat := (List.range m).filter fun y => !o.contains y
/-- After i digits: those chosen. -/
def choseN (n num : Nat) : Nat → List Nat
  | 0 => []
  | i + 1 => choseN n num i ++ [(freeN (choseN n num i) n).getD (digN n num i) 0]
theorem freeN_0 (o : List Nat) : freeN o 0 = [] := rfl
theorem freeN_succ (o : List Nat) (m : Nat) : freeN o (m + 1) = if o.contains m then freeN o m else freeN o m ++ [m] := by
  unfold freeN
  rw [List.range_succ, List.filter_append]
  cases h : o.contains m
  · rw [List.filter_cons, h]; simp
  · rw [List.filter_cons, h]; simp
theorem freeN_nil (m : Nat) : freeN [] m = List.range m := by
  unfold freeN; simp
theorem freeN_mem {o : List Nat} {m y : Nat} : y ∈ freeN o m ↔ y < m ∧ y ∉ o := by
  unfold freeN; simp [List.mem_filter]
/-- The d-th free one: free, and just d free ones are below it. -/
theorem freeN_at {o : List Nat} {m d : Nat} (h : d < (freeN o m).length) : (freeN o m).getD d 0 < m ∧ o.contains ((freeN o m).getD d 0) = false ∧ (freeN o ((freeN o m).getD d 0)).length = d := by
  induction m with
  | zero => simp [freeN] at h
  | succ m ih =>
    rw [freeN_succ] at h ⊢
    split at h
    · rename_i hc
      rw [if_pos hc]
      obtain ⟨a, b, c⟩ := ih h
      exact ⟨by omega, b, c⟩
    · rename_i hc
      rw [if_neg hc]
      rw [List.length_append, List.length_singleton] at h
      rcases Nat.lt_or_ge d (freeN o m).length with h1 | h1
      · obtain ⟨a, b, c⟩ := ih h1
        have e : (freeN o m ++ [m]).getD d 0 = (freeN o m).getD d 0 := by simp [List.getD_eq_getElem?_getD, List.getElem?_append_left h1]
        rw [e]; exact ⟨by omega, b, c⟩
      · have hd : d = (freeN o m).length := by omega
        have e : (freeN o m ++ [m]).getD d 0 = m := by subst hd; simp [List.getD_eq_getElem?_getD]
        rw [e]; exact ⟨by omega, by simpa using hc, hd.symm⟩
theorem freeN_mono (o : List Nat) {a b : Nat} (h : a ≤ b) : (freeN o a).length ≤ (freeN o b).length := by
  induction b with
  | zero => rw [show a = 0 from by omega]; exact Nat.le_refl _
  | succ b ih =>
    rcases Nat.lt_or_ge a (b + 1) with h1 | h1
    · refine Nat.le_trans (ih (by omega)) ?_
      rw [freeN_succ]; split <;> simp
    · obtain rfl : a = b + 1 := by omega
      exact Nat.le_refl _
/-- What is chosen is taken out. -/
theorem freeN_erase {o : List Nat} {m d : Nat} (h : d < (freeN o m).length) : freeN (o ++ [(freeN o m).getD d 0]) m = (freeN o m).eraseIdx d := by
  obtain ⟨hy, hc, hl⟩ := freeN_at h
  generalize (freeN o m).getD d 0 = y at *
  have below : ∀ k, k ≤ y → freeN (o ++ [y]) k = freeN o k := by
    intro k hk
    unfold freeN
    refine List.filter_congr fun x hx => ?_
    have : x < k := List.mem_range.1 hx
    simp [List.contains_eq_mem, show x ≠ y by omega]
  have key : ∀ k, y < k → freeN (o ++ [y]) k = (freeN o k).eraseIdx d := by
    intro k
    induction k with
    | zero => intro hk; omega
    | succ k ih =>
      intro hk
      rw [freeN_succ, freeN_succ]
      rcases Nat.lt_or_ge y k with h1 | h1
      · have e : (o ++ [y]).contains k = o.contains k := by simp [List.contains_eq_mem, show k ≠ y by omega]
        rw [e, ih h1]
        have hlt : d < (freeN o k).length := by
          have := freeN_mono o (show y + 1 ≤ k by omega)
          rw [freeN_succ, if_neg (by rw [hc]; simp)] at this
          simp at this; omega
        split
        · rfl
        · rw [List.eraseIdx_append_of_lt_length hlt]
      · obtain rfl : y = k := by omega
        rw [if_pos (by simp), if_neg (by rw [hc]; simp), below y (Nat.le_refl _), List.eraseIdx_append_of_length_le (by omega), hl]
        simp
  exact key m hy
theorem digN_lt {n num i : Nat} (h : i < n) : digN n num i < n - i := Nat.mod_lt _ (by omega)
theorem chose_facts (n num : Nat) : ∀ i, i ≤ n → (choseN n num i).length = i ∧ (freeN (choseN n num i) n).length = n - i
  | 0, _ => by simp [choseN, freeN_nil]
  | i + 1, h => by
    obtain ⟨h1, h2⟩ := chose_facts n num i (by omega)
    have hd := digN_lt (num := num) (show i < n by omega)
    simp only [choseN]
    refine ⟨by simp [h1], ?_⟩
    rw [freeN_erase (by omega), List.length_eraseIdx_of_lt (by omega), h2]; omega
theorem choseN_0 (n num : Nat) : choseN n num 0 = [] := rfl
theorem choseN_succ (n num i : Nat) : choseN n num (i + 1) = choseN n num i ++ [(freeN (choseN n num i) n).getD (digN n num i) 0] := rfl
theorem choseN_lt (n num : Nat) : ∀ i, i ≤ n → ∀ z ∈ choseN n num i, z < n
  | 0, _, z, hz => by simp [choseN] at hz
  | i + 1, h, z, hz => by
    rw [choseN_succ] at hz
    rcases List.mem_append.1 hz with h1 | h1
    · exact choseN_lt n num i (by omega) z h1
    · simp only [List.mem_singleton] at h1
      obtain ⟨_, h2⟩ := chose_facts n num i (by omega)
      have hd := digN_lt (num := num) (show i < n by omega)
      rw [h1]
      exact (freeN_at (by omega)).1
theorem fact_succ (n : Nat) : fact (n + 1) = (n + 1) * fact n := rfl
theorem fact_0 : fact 0 = 1 := rfl
theorem fact_split {n i : Nat} (h : i < n) : fact (n - i) = (n - i) * fact (n - 1 - i) := by
  rw [show n - i = (n - 1 - i) + 1 from by omega, fact_succ]
/-- A digit from what is left of the number. -/
theorem dig_rest {n num i : Nat} (h : i < n) : num % fact (n - i) / fact (n - 1 - i) = digN n num i ∧ num % fact (n - i) % fact (n - 1 - i) = num % fact (n - (i + 1)) := by
  rw [fact_split h]
  refine ⟨?_, ?_⟩
  · unfold digN; rw [Nat.mul_comm, Nat.mod_mul_right_div_self]
  · rw [Nat.mod_mod_of_dvd _ (Nat.dvd_mul_left _ _)]; congr 2; omega
/-- The number divided down from the last place on. -/
theorem div_down {n num i : Nat} (h : i < n) : num / fact (n - 1 - i) / (n - i) = num / fact (n - i) := by
  rw [fact_split h, Nat.div_div_eq_div_mul, Nat.mul_comm]
theorem digN_eq (n num i : Nat) : digN n num i = num / fact (n - 1 - i) % (n - i) := rfl
theorem over_iff (num n : Nat) : 0 < num / fact n ↔ fact n ≤ num := by
  rw [Nat.div_pos_iff]
  exact ⟨fun h => h.2, fun h => ⟨fact_pos n, h⟩⟩
/-- The digits while they are found: those from place j on. -/
def digHalf (n num j : Nat) : List Int := (List.range n).map fun p => if j ≤ p then ((digN n num p : Nat) : Int) else 0
theorem digHalf_length (n num j : Nat) : (digHalf n num j).length = n := by simp [digHalf]
theorem digHalf_start (n num : Nat) : digHalf n num n = List.replicate n 0 := by
  apply List.ext_getElem
  · simp [digHalf]
  · intro p h1 h2
    have hp : p < n := by simpa using h2
    simp [digHalf, show ¬ n ≤ p by omega]
theorem digHalf_set {n num j : Nat} (h : j < n) {x : Int} (hx : x = ((digN n num j : Nat) : Int)) : (digHalf n num (j + 1)).set j x = digHalf n num j := by
  subst hx
  apply List.ext_getElem
  · simp [digHalf]
  · intro p h1 h2
    rw [List.getElem_set]
    simp only [digHalf, List.getElem_map, List.getElem_range]
    by_cases e : j = p
    · subst e; simp
    · rw [if_neg e]
      by_cases h3 : j ≤ p
      · rw [if_pos h3, if_pos (by omega)]
      · rw [if_neg h3, if_neg (by omega)]
theorem digHalf_at {n num p : Nat} (h : p < n) : (digHalf n num 0).getD p 0 = ((digN n num p : Nat) : Int) := by simp [digHalf, h]
/-- Numbers as values. -/
def natVs (l : List Nat) : List Go.Value := l.map fun k : Nat => Go.Value.int .i64 (k : Int)
theorem natVs_nil : natVs [] = [] := rfl
theorem natVs_length (l : List Nat) : (natVs l).length = l.length := by simp [natVs]
theorem natVs_snoc (l : List Nat) (k : Nat) : natVs (l ++ [k]) = natVs l ++ [.int .i64 (k : Int)] := by simp [natVs]
theorem natVs_erase (l : List Nat) (d : Nat) : natVs (l.eraseIdx d) = (natVs l).take d ++ (natVs l).drop (d + 1) := by
  rw [List.eraseIdx_eq_take_drop_succ]; simp [natVs, List.map_drop]
theorem natVs_at {l : List Nat} {d : Nat} (h : d < l.length) : (natVs l)[d]? = some (.int .i64 ((l.getD d 0 : Nat) : Int)) := by simp [natVs, h]
theorem natVs_range (n : Nat) : natVs (List.range (n + 1)) = natVs (List.range n) ++ [.int .i64 (n : Int)] := by rw [List.range_succ, natVs_snoc]
theorem natVs_ints (l : List Nat) : natVs l = (l.map fun k : Nat => (k : Int)).map (Go.Value.int .i64) := by simp [natVs]
theorem natVs_one (l : List Nat) : ∀ u ∈ natVs l, u.oneCell' = true := by
  intro u hu
  simp only [natVs, List.mem_map] at hu
  obtain ⟨k, _, rfl⟩ := hu
  rfl
attribute [irreducible] fact digN freeN choseN digHalf natVs
end Go.Dam
