/-
  Plain laws of numbers level by level: where a place comes to, the number that is read on the way, and which places a range holds on each level. Conditions: none; no program in sight.
-/
import Derived.Test.YtjnndbllaplkcaaBitsCount
namespace Go.Dam
open Go
set_option linter.unusedVariables false
theorem cntB_upto (ws : List Nat) (one : Bool) {i j : Nat} (h : i ≤ j) : cntB ws one i ≤ cntB ws one j := by
  have := cntB_mono ws one i (j - i)
  rwa [show i + (j - i) = j from by omega] at this
theorem cntB_both (ws : List Nat) : ∀ i, cntB ws true i + cntB ws false i = i
  | 0 => by rw [cntB_0, cntB_0]
  | i + 1 => by
    have ih := cntB_both ws i
    cases hb : bitAt ws i with
    | true => rw [cntB_yes hb, cntB_no (one := false) (by rw [hb]; simp)]; omega
    | false => rw [cntB_yes hb, cntB_no (one := true) (by rw [hb]; simp)]; omega
theorem cntB_lt_iff {ws : List Nat} {one : Bool} {p : Nat} (h : bitAt ws p = one) (b : Nat) : cntB ws one p < cntB ws one b ↔ p < b := by
  constructor
  · intro h1
    apply Classical.byContradiction
    intro h2
    have := cntB_upto ws one (show b ≤ p by omega)
    omega
  · intro h1
    have := cntB_upto ws one (show p + 1 ≤ b by omega)
    rw [cntB_yes h] at this
    omega
theorem cntB_le_iff {ws : List Nat} {one : Bool} {p : Nat} (h : bitAt ws p = one) (a : Nat) : cntB ws one a ≤ cntB ws one p ↔ a ≤ p := by
  constructor
  · intro h1
    apply Classical.byContradiction
    intro h2
    have := (cntB_lt_iff h a).2 (by omega)
    omega
  · exact fun h1 => cntB_upto ws one h1
/-- Where a place comes to on the next level, on the side of a bit. -/
def dnW (ws : List Nat) (n : Nat) (one : Bool) (p : Nat) : Nat := if one = true then cntB ws false n + cntB ws true p else cntB ws false p
theorem dnW_true (ws : List Nat) (n p : Nat) : dnW ws n true p = cntB ws false n + cntB ws true p := by unfold dnW; rw [if_pos rfl]
theorem dnW_false (ws : List Nat) (n p : Nat) : dnW ws n false p = cntB ws false p := by unfold dnW; rw [if_neg (by decide)]
theorem dnW_mono (ws : List Nat) (n : Nat) (one : Bool) {a b : Nat} (h : a ≤ b) : dnW ws n one a ≤ dnW ws n one b := by
  cases one with
  | true => rw [dnW_true, dnW_true]; have := cntB_upto ws true h; omega
  | false => rw [dnW_false, dnW_false]; exact cntB_upto ws false h
theorem dnW_le (ws : List Nat) (n : Nat) (one : Bool) {b : Nat} (h : b ≤ n) : dnW ws n one b ≤ n := by
  cases one with
  | true => rw [dnW_true]; have := cntB_upto ws true h; have := cntB_both ws n; omega
  | false => rw [dnW_false]; have := cntB_upto ws false h; have := cntB_both ws n; omega
/-- Which places come between. -/
theorem dnW_iff {ws : List Nat} {n a b p : Nat} {one : Bool} (hp : p < n) (hb : b ≤ n) : (dnW ws n one a ≤ dnW ws n (bitAt ws p) p ∧ dnW ws n (bitAt ws p) p < dnW ws n one b) ↔ (a ≤ p ∧ p < b ∧ bitAt ws p = one) := by
  have hf := cntB_upto ws false hb
  cases hbit : bitAt ws p with
  | true =>
    have h1 := cntB_lt_iff hbit b
    have h2 := cntB_le_iff hbit a
    cases one with
    | true =>
      simp only [dnW_true]
      constructor
      · intro h; exact ⟨by omega, by omega, trivial⟩
      · intro h; exact ⟨by omega, by omega⟩
    | false => simp only [dnW_true, dnW_false]; constructor <;> intro h
               · omega
               · exact absurd h.2.2 (by decide)
  | false =>
    have h1 := cntB_lt_iff hbit b
    have h2 := cntB_le_iff hbit a
    have h3 := (cntB_lt_iff hbit n).2 hp
    cases one with
    | true => simp only [dnW_true, dnW_false]; constructor <;> intro h
              · omega
              · exact absurd h.2.2 (by decide)
    | false =>
      simp only [dnW_false]
      constructor
      · intro h; exact ⟨by omega, by omega, trivial⟩
      · intro h; exact ⟨by omega, by omega⟩
theorem dnW_lt {ws : List Nat} {n p : Nat} (hp : p < n) : dnW ws n (bitAt ws p) p < n := by
  have := (dnW_iff (ws := ws) (one := bitAt ws p) (a := p) hp (Nat.le_refl n)).2 ⟨Nat.le_refl _, hp, rfl⟩
  have h2 := dnW_le ws n (bitAt ws p) (Nat.le_refl n)
  omega
theorem dnW_inj {ws : List Nat} {n p q : Nat} (hp : p < n) (hq : q < n) (h : dnW ws n (bitAt ws p) p = dnW ws n (bitAt ws q) q) : p = q := by
  have h1 := (dnW_iff (ws := ws) (one := bitAt ws p) (a := p) (b := p + 1) hp (by omega)).2 ⟨Nat.le_refl _, by omega, rfl⟩
  have := (dnW_iff (ws := ws) (one := bitAt ws p) (a := p) (b := p + 1) hq (by omega)).1 ⟨by omega, by omega⟩
  omega
attribute [irreducible] dnW
/-- The place and the number of j behind k levels. -/
def stW (n : Nat) (rows : List (List Nat)) : Nat → Nat → Nat × Nat
  | 0, j => (j, 0)
  | k + 1, j => (dnW (rows.getD k []) n (bitAt (rows.getD k []) (stW n rows k j).1) (stW n rows k j).1, 2 * (stW n rows k j).2 + (bitAt (rows.getD k []) (stW n rows k j).1).toNat)
def posW (n : Nat) (rows : List (List Nat)) (k j : Nat) : Nat := (stW n rows k j).1
def valW (n : Nat) (rows : List (List Nat)) (k j : Nat) : Nat := (stW n rows k j).2
theorem posW_0 (n : Nat) (rows : List (List Nat)) (j : Nat) : posW n rows 0 j = j := rfl
theorem valW_0 (n : Nat) (rows : List (List Nat)) (j : Nat) : valW n rows 0 j = 0 := rfl
theorem posW_succ (n : Nat) (rows : List (List Nat)) (k j : Nat) : posW n rows (k + 1) j = dnW (rows.getD k []) n (bitAt (rows.getD k []) (posW n rows k j)) (posW n rows k j) := rfl
theorem valW_succ (n : Nat) (rows : List (List Nat)) (k j : Nat) : valW n rows (k + 1) j = 2 * valW n rows k j + (bitAt (rows.getD k []) (posW n rows k j)).toNat := rfl
theorem posW_lt {n : Nat} {rows : List (List Nat)} {j : Nat} (hj : j < n) : ∀ k, posW n rows k j < n
  | 0 => hj
  | k + 1 => by rw [posW_succ]; exact dnW_lt (posW_lt hj k)
theorem posW_inj {n : Nat} {rows : List (List Nat)} {i j : Nat} (hi : i < n) (hj : j < n) : ∀ k, posW n rows k i = posW n rows k j → i = j
  | 0, h => h
  | k + 1, h => by rw [posW_succ, posW_succ] at h; exact posW_inj hi hj k (dnW_inj (posW_lt hi k) (posW_lt hj k) h)
theorem toNat_le (b : Bool) : b.toNat ≤ 1 := by cases b <;> decide
theorem valW_lt (n : Nat) (rows : List (List Nat)) (j : Nat) : ∀ k, valW n rows k j < 2 ^ k
  | 0 => by rw [valW_0]; decide
  | k + 1 => by
    rw [valW_succ, Nat.pow_succ]
    have := valW_lt n rows j k
    have := toNat_le (bitAt (rows.getD k []) (posW n rows k j))
    omega
attribute [irreducible] stW posW valW
/-- How many below n have it. -/
def countN (p : Nat → Bool) (n : Nat) : Nat := (List.range n).countP p
theorem countN_0 (p : Nat → Bool) : countN p 0 = 0 := rfl
theorem countN_succ (p : Nat → Bool) (n : Nat) : countN p (n + 1) = countN p n + (if p n then 1 else 0) := by
  unfold countN
  rw [List.range_succ, List.countP_append, List.countP_singleton]
theorem countN_le (p : Nat → Bool) : ∀ n, countN p n ≤ n
  | 0 => Nat.le_refl _
  | n + 1 => by rw [countN_succ]; have := countN_le p n; split <;> omega
theorem countN_congr {p q : Nat → Bool} : ∀ {n : Nat}, (∀ j, j < n → p j = q j) → countN p n = countN q n
  | 0, _ => rfl
  | n + 1, h => by rw [countN_succ, countN_succ, countN_congr fun j hj => h j (by omega), h n (by omega)]
theorem countN_and {p q : Nat → Bool} : ∀ {n : Nat}, (∀ j, j < n → p j = true → q j = false) → countN (fun j => p j || q j) n = countN p n + countN q n
  | 0, _ => rfl
  | n + 1, h => by
    rw [countN_succ, countN_succ, countN_succ, countN_and fun j hj => h j (by omega)]
    have := h n (by omega)
    cases hp : p n with
    | true => simp [this hp]; omega
    | false => cases q n <;> simp <;> omega
theorem countN_mono {p q : Nat → Bool} : ∀ {n : Nat}, (∀ j, j < n → p j = true → q j = true) → countN p n ≤ countN q n
  | 0, _ => Nat.le_refl _
  | n + 1, h => by
    rw [countN_succ, countN_succ]
    have := countN_mono (p := p) (q := q) (n := n) fun j hj => h j (by omega)
    have := h n (by omega)
    cases hp : p n with
    | true => simp [this hp]; omega
    | false => simp; omega
theorem countN_between (a b : Nat) : ∀ n, b ≤ n → countN (fun j => decide (a ≤ j ∧ j < b)) n = b - a := by
  have h1 : ∀ n, n ≤ b → countN (fun j => decide (a ≤ j ∧ j < b)) n = n - a := by
    intro n
    induction n with
    | zero => intro _; rw [countN_0]; omega
    | succ n ih =>
      intro h
      rw [countN_succ, ih (by omega)]
      by_cases hh : a ≤ n
      · rw [if_pos (by simp; omega)]; omega
      · rw [if_neg (by simp; omega)]; omega
  intro n
  induction n with
  | zero => intro h; rw [countN_0]; omega
  | succ n ih =>
    intro h
    by_cases hb : b = n + 1
    · rw [← hb]; exact h1 _ (Nat.le_refl _)
    · rw [countN_succ, ih (by omega), if_neg (by simp; omega)]; omega
