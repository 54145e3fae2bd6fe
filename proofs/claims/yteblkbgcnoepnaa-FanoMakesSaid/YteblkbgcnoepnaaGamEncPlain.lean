/-
  Plain laws of lists of numbers as codes: what encoding answers; and of reading one code from bits. Conditions: none; no program in sight.
-/
import Derived.Test.YteblkbgcnoepnaaGamPlain
import Derived.Test.YteblkbgcnoepnaaPackPlain
namespace Go.Dam
open Go
set_option linter.unusedVariables false
theorem gamK_len {k : Int} {n : Nat} (h : n ≤ 1048576) : (gamK k n).length ≤ 100 := by
  have h1 := bitLen_21 h
  by_cases hk : k = 2
  · subst hk
    have h2 := bitLen_21 (n := Lib.bitLen n) (by omega)
    rw [gamK_2, gam1_eq, gamK_1 (by decide)]
    simp only [List.length_append, List.length_replicate, binN_length]
    omega
  · rw [gamK_1 hk]
    simp only [List.length_append, List.length_replicate, binN_length]
    omega
def encL (k : Int) (l : List Int) : List Bool := (l.map fun z => gamK k z.toNat).flatten
theorem encL_nil (k : Int) : encL k [] = [] := rfl
theorem encL_cons (k z : Int) (l : List Int) : encL k (z :: l) = gamK k z.toNat ++ encL k l := by unfold encL; simp
theorem encL_step (k : Int) : ∀ (l : List Int) (i : Nat), i < l.length → encL k (l.take (i + 1)) = encL k (l.take i) ++ gamK k (l.getD i 0).toNat
  | [], i, h => absurd h (by simp)
  | z :: l, 0, _ => by simp [encL_cons, encL_nil]
  | z :: l, i + 1, h => by
    rw [List.take_succ_cons, List.take_succ_cons, encL_cons, encL_cons, encL_step k l i (by simpa using h), List.append_assoc]
    rfl
def numOk (z : Int) : Bool := decide (1 ≤ z) && decide (z ≤ 1048576)
theorem numOk_iff {z : Int} : numOk z = true ↔ 1 ≤ z ∧ z ≤ 1048576 := by unfold numOk; simp
theorem encL_len (k : Int) : ∀ l : List Int, (∀ z ∈ l, numOk z = true) → (encL k l).length ≤ 100 * l.length
  | [], _ => by rw [encL_nil]; simp
  | z :: l, h => by
    rw [encL_cons, List.length_append, List.length_cons]
    have h1 := numOk_iff.1 (h z (by simp))
    have := gamK_len (k := k) (n := z.toNat) (by omega)
    have := encL_len k l fun y hy => h y (by simp [hy])
    omega
theorem take_ok {l : List Int} {i : Nat} (h : ∀ j, j < i → numOk (l.getD j 0) = true) (hi : i ≤ l.length) : ∀ z ∈ l.take i, numOk z = true := by
  intro z hz
  obtain ⟨j, hj, rfl⟩ := List.getElem_of_mem hz
  have h1 := h j (by simp at hj; omega)
  rw [List.getElem_take]
  rw [List.getD_eq_getElem?_getD, List.getElem?_eq_getElem (by simp at hj; omega)] at h1
  exact h1
attribute [irreducible] numOk encL
def kinded (k : Int) : Prop := k = 1 ∨ k = 2
/-- What encoding answers. -/
def EncR (k : Int) (l : List Int) (n : Int) (ws : List Nat) (cc : Int) : Prop :=
  (¬ kinded k ∧ n = 0 ∧ ws = [] ∧ cc = 3) ∨ (kinded k ∧ 300 < l.length ∧ n = 0 ∧ ws = [] ∧ cc = 1) ∨
  (kinded k ∧ l.length ≤ 300 ∧ (∃ i, i < l.length ∧ numOk (l.getD i 0) = false ∧ ∀ j, j < i → numOk (l.getD j 0) = true) ∧ n = 0 ∧ ws = [] ∧ cc = 2) ∨
  (kinded k ∧ l.length ≤ 300 ∧ (∀ j, j < l.length → numOk (l.getD j 0) = true) ∧ 4096 < (encL k l).length ∧ n = 0 ∧ ws = [] ∧ cc = 9) ∨
  (kinded k ∧ l.length ≤ 300 ∧ (∀ j, j < l.length → numOk (l.getD j 0) = true) ∧ (encL k l).length ≤ 4096 ∧ n = (encL k l).length ∧ ws = packW (encL k l) (((encL k l).length + 63) / 64) (encL k l).length ∧ cc = 0)
theorem first_bad (l : List Int) : ∀ n, (∀ j, j < n → numOk (l.getD j 0) = true) ∨ ∃ i, i < n ∧ numOk (l.getD i 0) = false ∧ ∀ j, j < i → numOk (l.getD j 0) = true
  | 0 => .inl fun j hj => absurd hj (by omega)
  | n + 1 => by
    rcases first_bad l n with h | ⟨i, hi, h1, h2⟩
    · cases hb : numOk (l.getD n 0) with
      | true =>
        refine .inl fun j hj => ?_
        rcases Nat.lt_or_eq_of_le (Nat.le_of_lt_succ hj) with g | g
        · exact h j g
        · rw [g]; exact hb
      | false => exact .inr ⟨n, Nat.lt_succ_self _, hb, h⟩
    · exact .inr ⟨i, by omega, h1, h2⟩
theorem EncR.ex (k : Int) (l : List Int) : ∃ n ws cc, EncR k l n ws cc := by
  by_cases hk : kinded k
  · by_cases hl : 300 < l.length
    · exact ⟨_, _, _, .inr (.inl ⟨hk, hl, rfl, rfl, rfl⟩)⟩
    · rcases first_bad l l.length with h | h
      · by_cases hf : 4096 < (encL k l).length
        · exact ⟨_, _, _, .inr (.inr (.inr (.inl ⟨hk, by omega, h, hf, rfl, rfl, rfl⟩)))⟩
        · exact ⟨_, _, _, .inr (.inr (.inr (.inr ⟨hk, by omega, h, by omega, rfl, rfl, rfl⟩)))⟩
      · exact ⟨_, _, _, .inr (.inr (.inl ⟨hk, by omega, h, rfl, rfl, rfl⟩))⟩
  · exact ⟨_, _, _, .inl ⟨hk, rfl, rfl, rfl⟩⟩

/-! ### reading -/
/-- The number that bits behind a 1 tell. -/
def valB : Nat → List Bool → Nat
  | x, [] => x
  | x, b :: l => valB (2 * x + b.toNat) l
theorem valB_nil (x : Nat) : valB x [] = x := rfl
theorem valB_cons (x : Nat) (b : Bool) (l : List Bool) : valB x (b :: l) = valB (2 * x + b.toNat) l := rfl
theorem valB_snoc (x : Nat) (l : List Bool) (b : Bool) : valB x (l ++ [b]) = 2 * valB x l + b.toNat := by
  induction l generalizing x with
  | nil => rfl
  | cons c l ih => rw [List.cons_append, valB_cons, ih, valB_cons]
theorem valB_bound : ∀ (l : List Bool) (x : Nat), valB x l < (x + 1) * 2 ^ l.length
  | [], x => by rw [valB_nil]; simp
  | b :: l, x => by
    rw [valB_cons, List.length_cons]
    have h := valB_bound l (2 * x + b.toNat)
    have hb : b.toNat ≤ 1 := by cases b <;> decide
    have : (2 * x + b.toNat + 1) * 2 ^ l.length ≤ (2 * (x + 1)) * 2 ^ l.length := Nat.mul_le_mul_right _ (by omega)
    rw [Nat.pow_succ, Nat.mul_comm (2 ^ l.length) 2, ← Nat.mul_assoc, Nat.mul_comm (x + 1) 2]
    omega
/-- How many 0 stand ahead. -/
def zerosB : List Bool → Nat
  | [] => 0
  | b :: l => if b then 0 else zerosB l + 1
theorem zerosB_le : ∀ l, zerosB l ≤ l.length
  | [] => Nat.le_refl _
  | b :: l => by unfold zerosB; have := zerosB_le l; split <;> simp <;> omega
theorem zerosB_below : ∀ (l : List Bool) (j : Nat), j < zerosB l → l.getD j false = false ∧ j < l.length
  | [], j, h => absurd h (by simp [zerosB])
  | true :: l, j, h => absurd h (by simp [zerosB])
  | false :: l, 0, _ => by simp
  | false :: l, j + 1, h => by
    have := zerosB_below l j (by simp [zerosB] at h; exact h)
    exact ⟨by simpa using this.1, by simpa using this.2⟩
theorem zerosB_at : ∀ (l : List Bool), zerosB l < l.length → l.getD (zerosB l) false = true
  | [], h => absurd h (by simp)
  | true :: l, h => by simp [zerosB]
  | false :: l, h => by
    have := zerosB_at l (by simp [zerosB] at h; omega)
    simpa [zerosB] using this
theorem zerosB_is : ∀ (l : List Bool) (z : Nat), z < l.length → l.getD z false = true → (∀ j, j < z → l.getD j false = false) → zerosB l = z
  | [], z, h, _, _ => absurd h (by simp)
  | true :: l, 0, _, _, _ => by simp [zerosB]
  | true :: l, z + 1, _, _, h => by have := h 0 (by omega); simp at this
  | false :: l, 0, _, h, _ => by simp at h
  | false :: l, z + 1, h, h2, h3 => by
    have := zerosB_is l z (by simpa using h) (by simpa using h2) (fun j hj => by simpa using h3 (j + 1) (by omega))
    simp [zerosB, this]
theorem zerosB_ge : ∀ (l : List Bool) (z : Nat), z ≤ l.length → (∀ j, j < z → l.getD j false = false) → z ≤ zerosB l
  | [], z, h, _ => by simp at h; omega
  | l, 0, _, _ => by omega
  | true :: l, z + 1, _, h => by have := h 0 (by omega); simp at this
  | false :: l, z + 1, h, h3 => by
    have := zerosB_ge l z (by simpa using h) (fun j hj => by simpa using h3 (j + 1) (by omega))
    simp [zerosB]; omega
attribute [irreducible] valB zerosB
/-- What many bits behind a 1 tell: the number and what is left, or why not. -/
def NumB (many : Nat) (l : List Bool) (x : Nat) (rest : List Bool) (e : Int) : Prop :=
  (l.length < many ∧ e = 5 ∧ x = 0 ∧ rest = []) ∨ (many ≤ l.length ∧ 1048576 < valB 1 (l.take many) ∧ e = 2 ∧ x = 0 ∧ rest = []) ∨
  (many ≤ l.length ∧ valB 1 (l.take many) ≤ 1048576 ∧ e = 0 ∧ x = valB 1 (l.take many) ∧ rest = l.drop many)
theorem NumB.ex (many : Nat) (l : List Bool) : ∃ x rest e, NumB many l x rest e := by
  by_cases h : l.length < many
  · exact ⟨_, _, _, .inl ⟨h, rfl, rfl, rfl⟩⟩
  · by_cases h2 : 1048576 < valB 1 (l.take many)
    · exact ⟨_, _, _, .inr (.inl ⟨by omega, h2, rfl, rfl, rfl⟩)⟩
    · exact ⟨_, _, _, .inr (.inr ⟨by omega, by omega, rfl, rfl, rfl⟩)⟩
/-- The next number of kind 1. -/
def Next1 (l : List Bool) (x : Nat) (rest : List Bool) (e : Int) : Prop :=
  (21 ≤ zerosB l ∧ e = 2 ∧ x = 0 ∧ rest = []) ∨ (zerosB l < 21 ∧ zerosB l = l.length ∧ e = 5 ∧ x = 0 ∧ rest = []) ∨
  (zerosB l < 21 ∧ zerosB l < l.length ∧ NumB (zerosB l) (l.drop (zerosB l + 1)) x rest e)
theorem Next1.ex (l : List Bool) : ∃ x rest e, Next1 l x rest e := by
  have := zerosB_le l
  by_cases h : 21 ≤ zerosB l
  · exact ⟨_, _, _, .inl ⟨h, rfl, rfl, rfl⟩⟩
  · by_cases h2 : zerosB l = l.length
    · exact ⟨_, _, _, .inr (.inl ⟨by omega, h2, rfl, rfl, rfl⟩)⟩
    · obtain ⟨x, rest, e, h3⟩ := NumB.ex (zerosB l) (l.drop (zerosB l + 1))
      exact ⟨x, rest, e, .inr (.inr ⟨by omega, by omega, h3⟩)⟩
/-- The next number of a kind. -/
def NextR (k : Int) (l : List Bool) (x : Nat) (rest : List Bool) (e : Int) : Prop :=
  (k ≠ 2 ∧ Next1 l x rest e) ∨ (k = 2 ∧ ∃ y r f, Next1 l y r f ∧ ((f ≠ 0 ∧ e = f ∧ x = 0 ∧ rest = []) ∨ (f = 0 ∧ 21 < y ∧ e = 2 ∧ x = 0 ∧ rest = []) ∨ (f = 0 ∧ y ≤ 21 ∧ NumB (y - 1) r x rest e)))
theorem NextR.ex (k : Int) (l : List Bool) : ∃ x rest e, NextR k l x rest e := by
  obtain ⟨y, r, f, h⟩ := Next1.ex l
  by_cases hk : k = 2
  · by_cases h1 : f = 0
    · by_cases h2 : 21 < y
      · exact ⟨_, _, _, .inr ⟨hk, _, _, _, h, .inr (.inl ⟨h1, h2, rfl, rfl, rfl⟩)⟩⟩
      · obtain ⟨x, rest, e, h3⟩ := NumB.ex (y - 1) r
        exact ⟨_, _, _, .inr ⟨hk, _, _, _, h, .inr (.inr ⟨h1, by omega, h3⟩)⟩⟩
    · exact ⟨_, _, _, .inr ⟨hk, _, _, _, h, .inl ⟨h1, rfl, rfl, rfl⟩⟩⟩
  · exact ⟨_, _, _, .inl ⟨hk, h⟩⟩
theorem valB_pos : ∀ (l : List Bool) (x : Nat), 1 ≤ x → 1 ≤ valB x l
  | [], x, h => by rw [valB_nil]; exact h
  | b :: l, x, h => by rw [valB_cons]; exact valB_pos l _ (by omega)
theorem NumB.fact {many : Nat} {l : List Bool} {x : Nat} {rest : List Bool} {e : Int} (h : NumB many l x rest e) : (e = 0 → 1 ≤ x ∧ x ≤ 1048576 ∧ ∃ t, t = many ∧ t ≤ l.length ∧ rest = l.drop t) ∧ (e = 0 ∨ e = 2 ∨ e = 5) := by
  rcases h with ⟨_, rfl, _⟩ | ⟨_, _, rfl, _⟩ | ⟨h1, h2, rfl, rfl, rfl⟩
  · exact ⟨fun h => absurd h (by decide), by decide⟩
  · exact ⟨fun h => absurd h (by decide), by decide⟩
  · exact ⟨fun _ => ⟨valB_pos _ _ (by decide), h2, many, rfl, h1, rfl⟩, by decide⟩
theorem Next1.fact {l : List Bool} {x : Nat} {rest : List Bool} {e : Int} (h : Next1 l x rest e) : (e = 0 → 1 ≤ x ∧ x ≤ 1048576 ∧ ∃ t, 1 ≤ t ∧ t ≤ l.length ∧ rest = l.drop t) ∧ (e = 0 ∨ e = 2 ∨ e = 5) := by
  rcases h with ⟨_, rfl, _⟩ | ⟨_, _, rfl, _⟩ | ⟨h1, h2, h3⟩
  · exact ⟨fun h => absurd h (by decide), by decide⟩
  · exact ⟨fun h => absurd h (by decide), by decide⟩
  · refine ⟨fun h0 => ?_, h3.fact.2⟩
    obtain ⟨a, b, t, _, ht, rfl⟩ := h3.fact.1 h0
    rw [List.length_drop] at ht
    exact ⟨a, b, zerosB l + 1 + t, by omega, by omega, by rw [List.drop_drop]⟩
theorem NextR.fact {k : Int} {l : List Bool} {x : Nat} {rest : List Bool} {e : Int} (h : NextR k l x rest e) : (e = 0 → 1 ≤ x ∧ x ≤ 1048576 ∧ ∃ t, 1 ≤ t ∧ t ≤ l.length ∧ rest = l.drop t) ∧ (e = 0 ∨ e = 2 ∨ e = 5) := by
  rcases h with ⟨_, h⟩ | ⟨_, y, r, f, h, h2⟩
  · exact h.fact
  · rcases h2 with ⟨h0, rfl, _⟩ | ⟨_, _, rfl, _⟩ | ⟨h0, h1, h2⟩
    · exact ⟨fun e => absurd e h0, h.fact.2⟩
    · exact ⟨fun h => absurd h (by decide), by decide⟩
    · refine ⟨fun h3 => ?_, h2.fact.2⟩
      obtain ⟨_, _, s, hs, hs2, rfl⟩ := h.fact.1 h0
      obtain ⟨a, b, t, _, ht, rfl⟩ := h2.fact.1 h3
      rw [List.length_drop] at ht
      exact ⟨a, b, s + t, by omega, by omega, by rw [List.drop_drop]⟩
/-- What decoding answers: out are the numbers so far. -/
inductive DecG (k : Int) : List Bool → List Int → List Int → Int → Prop
  | done (out : List Int) : out.length ≤ 300 → DecG k [] out out 0
  | long (out : List Int) : 300 < out.length → DecG k [] out [] 1
  | bad (l : List Bool) (out : List Int) (x : Nat) (rest : List Bool) (e : Int) : l ≠ [] → NextR k l x rest e → e ≠ 0 → DecG k l out [] e
  | step (l : List Bool) (out : List Int) (x : Nat) (rest : List Bool) (r : List Int) (cc : Int) : l ≠ [] → NextR k l x rest 0 → DecG k rest (out ++ [(x : Int)]) r cc → DecG k l out r cc
theorem DecG.ex (k : Int) : ∀ (N : Nat) (l : List Bool) (out : List Int), l.length ≤ N → ∃ r cc, DecG k l out r cc := by
  intro N
  induction N with
  | zero =>
    intro l out h
    obtain rfl : l = [] := List.length_eq_zero_iff.1 (by omega)
    by_cases ho : out.length ≤ 300
    · exact ⟨_, _, .done out ho⟩
    · exact ⟨_, _, .long out (by omega)⟩
  | succ N ih =>
    intro l out h
    by_cases hl : l = []
    · subst hl
      by_cases ho : out.length ≤ 300
      · exact ⟨_, _, .done out ho⟩
      · exact ⟨_, _, .long out (by omega)⟩
    · obtain ⟨x, rest, e, hn⟩ := NextR.ex k l
      by_cases he : e = 0
      · subst he
        obtain ⟨_, _, t, ht, ht2, hr⟩ := hn.fact.1 rfl
        obtain ⟨r, cc, hd⟩ := ih rest (out ++ [(x : Int)]) (by rw [hr, List.length_drop]; omega)
        exact ⟨r, cc, .step l out x rest r cc hl hn hd⟩
      · exact ⟨_, _, .bad l out x rest e hl hn he⟩
end Go.Dam
namespace Go.Dam
theorem NumB.uniq {many : Nat} {l : List Bool} {x x' : Nat} {r r' : List Bool} {e e' : Int} (h : NumB many l x r e) (h' : NumB many l x' r' e') : x = x' ∧ r = r' ∧ e = e' := by
  rcases h with ⟨a, rfl, rfl, rfl⟩ | ⟨a, b, rfl, rfl, rfl⟩ | ⟨a, b, rfl, rfl, rfl⟩ <;> rcases h' with ⟨a', rfl, rfl, rfl⟩ | ⟨a', b', rfl, rfl, rfl⟩ | ⟨a', b', rfl, rfl, rfl⟩ <;> first | exact ⟨rfl, rfl, rfl⟩ | (exfalso; omega)
theorem Next1.uniq {l : List Bool} {x x' : Nat} {r r' : List Bool} {e e' : Int} (h : Next1 l x r e) (h' : Next1 l x' r' e') : x = x' ∧ r = r' ∧ e = e' := by
  rcases h with ⟨a, rfl, rfl, rfl⟩ | ⟨a, b, rfl, rfl, rfl⟩ | ⟨a, b, h⟩ <;> rcases h' with ⟨a', rfl, rfl, rfl⟩ | ⟨a', b', rfl, rfl, rfl⟩ | ⟨a', b', h'⟩ <;> first | exact ⟨rfl, rfl, rfl⟩ | exact h.uniq h' | (exfalso; omega)
theorem NextR.uniq {k : Int} {l : List Bool} {x x' : Nat} {r r' : List Bool} {e e' : Int} (h : NextR k l x r e) (h' : NextR k l x' r' e') : x = x' ∧ r = r' ∧ e = e' := by
  rcases h with ⟨a, h⟩ | ⟨a, y, q, f, h, h2⟩ <;> rcases h' with ⟨a', h'⟩ | ⟨a', y', q', f', h', h2'⟩
  · exact h.uniq h'
  · exact absurd a' a
  · exact absurd a a'
  · obtain ⟨rfl, rfl, rfl⟩ := h.uniq h'
    rcases h2 with ⟨a, rfl, rfl, rfl⟩ | ⟨a, b, rfl, rfl, rfl⟩ | ⟨a, b, h2⟩ <;> rcases h2' with ⟨a', rfl, rfl, rfl⟩ | ⟨a', b', rfl, rfl, rfl⟩ | ⟨a', b', h2'⟩ <;> first | exact ⟨rfl, rfl, rfl⟩ | exact h2.uniq h2' | (exfalso; omega)
end Go.Dam
