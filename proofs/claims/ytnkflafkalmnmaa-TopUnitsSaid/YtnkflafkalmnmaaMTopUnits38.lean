/-
  Plain laws of covers, no program in sight: codes of places by halves, and the spans of what is met up to a code. Conditions: none.
-/
import Derived.Test.YtnkflafkalmnmaaMTopUnits00
import Derived.Test.YtnkflafkalmnmaaMTopUnits13
namespace Go.Dam
set_option linter.unusedVariables false
/-- The code of a place of k bits; and back. -/
def cdK : Nat → Nat → Nat → Nat
  | 0, _, _ => 0
  | k + 1, x, y => x % 2 + 2 * (y % 2) + 4 * cdK k (x / 2) (y / 2)
def dxK : Nat → Nat → Nat
  | 0, _ => 0
  | k + 1, c => c % 2 + 2 * dxK k (c / 4)
def dyK : Nat → Nat → Nat
  | 0, _ => 0
  | k + 1, c => c / 2 % 2 + 2 * dyK k (c / 4)
theorem cdK_lt : ∀ k x y, cdK k x y < 4 ^ k
  | 0, _, _ => by simp [cdK]
  | k + 1, x, y => by have := cdK_lt k (x / 2) (y / 2); rw [Nat.pow_succ]; show _ + _ + _ < _; omega
theorem dxK_lt : ∀ k c, dxK k c < 2 ^ k
  | 0, _ => by simp [dxK]
  | k + 1, c => by have := dxK_lt k (c / 4); rw [Nat.pow_succ]; show _ + _ < _; omega
theorem dyK_lt : ∀ k c, dyK k c < 2 ^ k
  | 0, _ => by simp [dyK]
  | k + 1, c => by have := dyK_lt k (c / 4); rw [Nat.pow_succ]; show _ + _ < _; omega
theorem dxK_cd : ∀ k x y, x < 2 ^ k → dxK k (cdK k x y) = x
  | 0, x, _, h => by simp [dxK]; simp at h; omega
  | k + 1, x, y, h => by
    rw [Nat.pow_succ] at h
    have ih := dxK_cd k (x / 2) (y / 2) (by omega)
    show (x % 2 + 2 * (y % 2) + 4 * cdK k (x / 2) (y / 2)) % 2 + 2 * dxK k ((x % 2 + 2 * (y % 2) + 4 * cdK k (x / 2) (y / 2)) / 4) = x
    rw [show (x % 2 + 2 * (y % 2) + 4 * cdK k (x / 2) (y / 2)) / 4 = cdK k (x / 2) (y / 2) from by omega, ih]; omega
theorem dyK_cd : ∀ k x y, y < 2 ^ k → dyK k (cdK k x y) = y
  | 0, _, y, h => by simp [dyK]; simp at h; omega
  | k + 1, x, y, h => by
    rw [Nat.pow_succ] at h
    have ih := dyK_cd k (x / 2) (y / 2) (by omega)
    show (x % 2 + 2 * (y % 2) + 4 * cdK k (x / 2) (y / 2)) / 2 % 2 + 2 * dyK k ((x % 2 + 2 * (y % 2) + 4 * cdK k (x / 2) (y / 2)) / 4) = y
    rw [show (x % 2 + 2 * (y % 2) + 4 * cdK k (x / 2) (y / 2)) / 4 = cdK k (x / 2) (y / 2) from by omega, ih]; omega
theorem cdK_d : ∀ k c, c < 4 ^ k → cdK k (dxK k c) (dyK k c) = c
  | 0, c, h => by simp [cdK]; simp at h; omega
  | k + 1, c, h => by
    rw [Nat.pow_succ] at h
    have ih := cdK_d k (c / 4) (by omega)
    show (c % 2 + 2 * dxK k (c / 4)) % 2 + 2 * ((c / 2 % 2 + 2 * dyK k (c / 4)) % 2) + 4 * cdK k ((c % 2 + 2 * dxK k (c / 4)) / 2) ((c / 2 % 2 + 2 * dyK k (c / 4)) / 2) = c
    rw [show (c % 2 + 2 * dxK k (c / 4)) / 2 = dxK k (c / 4) from by omega, show (c / 2 % 2 + 2 * dyK k (c / 4)) / 2 = dyK k (c / 4) from by omega, ih]; omega
/-- A code's places by its head and its tail. -/
theorem dxK_split (j : Nat) : ∀ k q r, r < 4 ^ k → dxK (j + k) (4 ^ k * q + r) = 2 ^ k * dxK j q + dxK k r
  | 0, q, r, h => by simp at h; subst h; simp [dxK]
  | k + 1, q, r, h => by
    rw [Nat.pow_succ] at h
    have ih := dxK_split j k q (r / 4) (by omega)
    show (4 ^ (k + 1) * q + r) % 2 + 2 * dxK (j + k) ((4 ^ (k + 1) * q + r) / 4) = 2 ^ (k + 1) * dxK j q + (r % 2 + 2 * dxK k (r / 4))
    have e : 4 ^ (k + 1) * q = 4 * (4 ^ k * q) := by rw [Nat.pow_succ, Nat.mul_comm (4 ^ k) 4, Nat.mul_assoc]
    have e2 : 2 ^ (k + 1) * dxK j q = 2 * (2 ^ k * dxK j q) := by rw [Nat.pow_succ, Nat.mul_comm (2 ^ k) 2, Nat.mul_assoc]
    rw [e, e2, show (4 * (4 ^ k * q) + r) / 4 = 4 ^ k * q + r / 4 from by omega, ih]; omega
theorem dyK_split (j : Nat) : ∀ k q r, r < 4 ^ k → dyK (j + k) (4 ^ k * q + r) = 2 ^ k * dyK j q + dyK k r
  | 0, q, r, h => by simp at h; subst h; simp [dyK]
  | k + 1, q, r, h => by
    rw [Nat.pow_succ] at h
    have ih := dyK_split j k q (r / 4) (by omega)
    show (4 ^ (k + 1) * q + r) / 2 % 2 + 2 * dyK (j + k) ((4 ^ (k + 1) * q + r) / 4) = 2 ^ (k + 1) * dyK j q + (r / 2 % 2 + 2 * dyK k (r / 4))
    have e : 4 ^ (k + 1) * q = 4 * (4 ^ k * q) := by rw [Nat.pow_succ, Nat.mul_comm (4 ^ k) 4, Nat.mul_assoc]
    have e2 : 2 ^ (k + 1) * dyK j q = 2 * (2 ^ k * dyK j q) := by rw [Nat.pow_succ, Nat.mul_comm (2 ^ k) 2, Nat.mul_assoc]
    rw [e, e2, show (4 * (4 ^ k * q) + r) / 4 = 4 ^ k * q + r / 4 from by omega, ih]; omega
theorem cdK_top : ∀ k x y, cdK (k + 1) x y = cdK k x y + (x / 2 ^ k % 2) * 4 ^ k + (y / 2 ^ k % 2) * (2 * 4 ^ k)
  | 0, x, y => by simp [cdK]; omega
  | k + 1, x, y => by
    have ih := cdK_top k (x / 2) (y / 2)
    show x % 2 + 2 * (y % 2) + 4 * cdK (k + 1) (x / 2) (y / 2) = (x % 2 + 2 * (y % 2) + 4 * cdK k (x / 2) (y / 2)) + _ + _
    rw [ih, Nat.div_div_eq_div_mul, Nat.div_div_eq_div_mul, show 2 * 2 ^ k = 2 ^ (k + 1) from by rw [Nat.pow_succ, Nat.mul_comm], show (4 : Nat) ^ (k + 1) = 4 * 4 ^ k from by rw [Nat.pow_succ, Nat.mul_comm]]
    generalize x / 2 ^ (k + 1) % 2 = a
    generalize y / 2 ^ (k + 1) % 2 = b
    generalize 4 ^ k = p
    have h1 : a * (4 * p) = 4 * (a * p) := by rw [Nat.mul_left_comm]
    have h2 : b * (2 * (4 * p)) = 4 * (b * (2 * p)) := by rw [Nat.mul_left_comm 2 4 p, Nat.mul_left_comm]
    rw [h1, h2]; omega
theorem cdK_zip (x y : Nat) : ∀ k, zipB x y k = cdK k x y
  | 0 => by rw [zipB_0]; rfl
  | k + 1 => by rw [zipB_succ, cdK_zip x y k, cdK_top]
theorem dxK_succ (k c : Nat) : dxK (k + 1) c = c % 2 + 2 * dxK k (c / 4) := rfl
theorem dyK_succ (k c : Nat) : dyK (k + 1) c = c / 2 % 2 + 2 * dyK k (c / 4) := rfl
theorem dxK_0 (c : Nat) : dxK 0 c = 0 := rfl
theorem dyK_0 (c : Nat) : dyK 0 c = 0 := rfl
attribute [irreducible] cdK dxK dyK
/-- One span more: it is put to the last one, if it begins behind it. -/
def addRun (l : List (Nat × Nat)) (lo hi : Nat) : List (Nat × Nat) :=
  match l.getLast? with
  | some p => if p.2 + 1 = lo then l.dropLast ++ [(p.1, hi)] else l ++ [(lo, hi)]
  | none => [(lo, hi)]
theorem addRun_nil (lo hi : Nat) : addRun [] lo hi = [(lo, hi)] := rfl
theorem addRun_on (l : List (Nat × Nat)) (a b hi : Nat) : addRun (l ++ [(a, b)]) (b + 1) hi = l ++ [(a, hi)] := by unfold addRun; simp
theorem addRun_off {l : List (Nat × Nat)} {a b lo : Nat} (hi : Nat) (h : b + 1 ≠ lo) : addRun (l ++ [(a, b)]) lo hi = l ++ [(a, b)] ++ [(lo, hi)] := by unfold addRun; simp [h]
theorem addRun_last (l : List (Nat × Nat)) (lo hi : Nat) : ∃ m a, addRun l lo hi = m ++ [(a, hi)] := by
  rcases List.eq_nil_or_concat l with rfl | ⟨m, ⟨a, b⟩, rfl⟩
  · exact ⟨[], lo, rfl⟩
  · by_cases h : b + 1 = lo
    · subst h; exact ⟨m, a, by rw [List.concat_eq_append]; exact addRun_on m a b hi⟩
    · exact ⟨m ++ [(a, b)], lo, by rw [List.concat_eq_append]; exact addRun_off hi h⟩
theorem addRun_twice (l : List (Nat × Nat)) (lo hi hi' : Nat) : addRun (addRun l lo hi) (hi + 1) hi' = addRun l lo hi' := by
  rcases List.eq_nil_or_concat l with rfl | ⟨m, ⟨a, b⟩, rfl⟩
  · rw [addRun_nil, addRun_nil]; exact addRun_on [] lo hi hi'
  · by_cases h : b + 1 = lo
    · subst h
      rw [List.concat_eq_append, addRun_on, addRun_on, addRun_on]
    · rw [List.concat_eq_append, addRun_off hi h, addRun_off hi' h, addRun_on]
/-- The spans of what is met below a code. -/
def runsK (P : Nat → Bool) : Nat → List (Nat × Nat)
  | 0 => []
  | c + 1 => if P c then addRun (runsK P c) c c else runsK P c
theorem runsK_0 (P : Nat → Bool) : runsK P 0 = [] := rfl
theorem runsK_yes {P : Nat → Bool} {c : Nat} (h : P c = true) : runsK P (c + 1) = addRun (runsK P c) c c := by show (if _ then _ else _) = _; rw [if_pos h]
theorem runsK_no {P : Nat → Bool} {c : Nat} (h : P c = false) : runsK P (c + 1) = runsK P c := by show (if _ then _ else _) = _; rw [if_neg (by rw [h]; decide)]
theorem runsK_none {P : Nat → Bool} {c : Nat} : ∀ n, (∀ i, c ≤ i → i < c + n → P i = false) → runsK P (c + n) = runsK P c
  | 0, _ => rfl
  | n + 1, h => by rw [← Nat.add_assoc, runsK_no (h (c + n) (by omega) (by omega)), runsK_none n fun i a b => h i a (by omega)]
theorem runsK_all {P : Nat → Bool} {c : Nat} : ∀ n, (∀ i, c ≤ i → i < c + n + 1 → P i = true) → runsK P (c + n + 1) = addRun (runsK P c) c (c + n)
  | 0, h => runsK_yes (h c (by omega) (by omega))
  | n + 1, h => by
    rw [show c + (n + 1) + 1 = (c + n + 1) + 1 from by omega, runsK_yes (h (c + n + 1) (by omega) (by omega)), runsK_all n fun i a b => h i a (by omega), addRun_twice]
    rfl
theorem addRun_len (l : List (Nat × Nat)) (lo hi : Nat) : (addRun l lo hi).length ≤ l.length + 1 := by
  rcases List.eq_nil_or_concat l with rfl | ⟨m, ⟨a, b⟩, rfl⟩
  · simp [addRun_nil]
  · by_cases h : b + 1 = lo
    · subst h; rw [List.concat_eq_append, addRun_on]; simp
    · rw [List.concat_eq_append, addRun_off hi h]; simp
theorem runsK_len (P : Nat → Bool) : ∀ c, (runsK P c).length ≤ c
  | 0 => Nat.le_refl _
  | c + 1 => by
    cases h : P c with
    | true => rw [runsK_yes h]; have := addRun_len (runsK P c) c c; have := runsK_len P c; omega
    | false => rw [runsK_no h]; have := runsK_len P c; omega
theorem addRun_mem {l : List (Nat × Nat)} {lo hi N : Nat} (hl : ∀ p ∈ l, p.1 < N ∧ p.2 < N) (h1 : lo < N) (h2 : hi < N) : ∀ p ∈ addRun l lo hi, p.1 < N ∧ p.2 < N := by
  intro p hp
  rcases List.eq_nil_or_concat l with rfl | ⟨m, ⟨a, b⟩, rfl⟩
  · rw [addRun_nil] at hp; simp at hp; subst hp; exact ⟨h1, h2⟩
  · rw [List.concat_eq_append] at hp hl
    have ha := hl (a, b) (by simp)
    by_cases h : b + 1 = lo
    · subst h
      rw [addRun_on] at hp
      rcases List.mem_append.1 hp with hp | hp
      · exact hl p (List.mem_append.2 (.inl hp))
      · simp at hp; subst hp; exact ⟨ha.1, h2⟩
    · rw [addRun_off hi h] at hp
      rcases List.mem_append.1 hp with hp | hp
      · exact hl p hp
      · simp at hp; subst hp; exact ⟨h1, h2⟩
theorem runsK_mem (P : Nat → Bool) : ∀ c, ∀ p ∈ runsK P c, p.1 < c ∧ p.2 < c
  | 0, p, hp => by rw [runsK_0] at hp; cases hp
  | c + 1, p, hp => by
    have ih := runsK_mem P c
    cases h : P c with
    | true => rw [runsK_yes h] at hp; exact addRun_mem (fun q hq => by have := ih q hq; omega) (by omega) (by omega) p hp
    | false => rw [runsK_no h] at hp; have := ih p hp; omega
/-- The spans, number by number. -/
def flatR (l : List (Nat × Nat)) : List Int := l.flatMap fun p => [(p.1 : Int), (p.2 : Int)]
theorem flatR_snoc (l : List (Nat × Nat)) (a b : Nat) : flatR (l ++ [(a, b)]) = flatR l ++ [(a : Int), (b : Int)] := by unfold flatR; simp
theorem flatR_nil : flatR [] = [] := rfl
theorem flatR_len : ∀ l : List (Nat × Nat), (flatR l).length = l.length * 2
  | [] => rfl
  | p :: l => by show ([(p.1 : Int), (p.2 : Int)] ++ flatR l).length = _; rw [List.length_append, flatR_len l]; simp; omega
theorem flatR_wf {l : List (Nat × Nat)} {N : Nat} (h : ∀ p ∈ l, p.1 < N ∧ p.2 < N) : ∀ z ∈ flatR l, 0 ≤ z ∧ z < (N : Int) := fun z hz => by
  unfold flatR at hz
  obtain ⟨p, hp, hz⟩ := List.mem_flatMap.1 hz
  have := h p hp
  simp at hz
  omega
/-- What is met of a rectangle. -/
def inC (x0 y0 x1 y1 : Int) (c : Nat) : Bool := decide (x0 ≤ (dxK 8 c : Int)) && decide ((dxK 8 c : Int) ≤ x1) && decide (y0 ≤ (dyK 8 c : Int)) && decide ((dyK 8 c : Int) ≤ y1)
/-- A square of the k-th size, the q-th in order: its places. -/
theorem sq_x {k q c : Nat} (hk : k ≤ 8) (h1 : 4 ^ k * q ≤ c) (h2 : c < 4 ^ k * q + 4 ^ k) : dxK 8 c = 2 ^ k * dxK (8 - k) q + dxK k (c - 4 ^ k * q) := by
  have := dxK_split (8 - k) k q (c - 4 ^ k * q) (by omega)
  rw [show 8 - k + k = 8 from by omega, show 4 ^ k * q + (c - 4 ^ k * q) = c from by omega] at this
  exact this
theorem sq_y {k q c : Nat} (hk : k ≤ 8) (h1 : 4 ^ k * q ≤ c) (h2 : c < 4 ^ k * q + 4 ^ k) : dyK 8 c = 2 ^ k * dyK (8 - k) q + dyK k (c - 4 ^ k * q) := by
  have := dyK_split (8 - k) k q (c - 4 ^ k * q) (by omega)
  rw [show 8 - k + k = 8 from by omega, show 4 ^ k * q + (c - 4 ^ k * q) = c from by omega] at this
  exact this
theorem dxK_quad (k q i : Nat) (hi : i < 4) : dxK (k + 1) (4 * q + i) = 2 * dxK k q + i % 2 := by
  rw [dxK_succ, show (4 * q + i) / 4 = q from by omega]; omega
theorem dyK_quad (k q i : Nat) (hi : i < 4) : dyK (k + 1) (4 * q + i) = 2 * dyK k q + i / 2 := by
  rw [dyK_succ, show (4 * q + i) / 4 = q from by omega]; omega
/-- Nothing of a square is met. -/
theorem sq_none {x0 y0 x1 y1 : Int} {k q : Nat} (hk : k ≤ 8) (h : x1 < ((2 ^ k * dxK (8 - k) q : Nat) : Int) ∨ y1 < ((2 ^ k * dyK (8 - k) q : Nat) : Int) ∨ ((2 ^ k * dxK (8 - k) q + 2 ^ k : Nat) : Int) ≤ x0 ∨ ((2 ^ k * dyK (8 - k) q + 2 ^ k : Nat) : Int) ≤ y0) :
    runsK (inC x0 y0 x1 y1) (4 ^ k * q + 4 ^ k) = runsK (inC x0 y0 x1 y1) (4 ^ k * q) := by
  refine runsK_none _ fun c h1 h2 => ?_
  have a := sq_x hk h1 h2
  have b := sq_y hk h1 h2
  have a2 := dxK_lt k (c - 4 ^ k * q)
  have b2 := dyK_lt k (c - 4 ^ k * q)
  unfold inC
  rw [a, b]
  simp only [Bool.and_eq_false_iff, decide_eq_false_iff_not]
  generalize 2 ^ k * dxK (8 - k) q = X at *
  generalize 2 ^ k * dyK (8 - k) q = Y at *
  generalize 2 ^ k = W at *
  push_cast at h ⊢
  omega
/-- All of a square is met. -/
theorem sq_all {x0 y0 x1 y1 : Int} {k q : Nat} (hk : k ≤ 8) (h1 : x0 ≤ ((2 ^ k * dxK (8 - k) q : Nat) : Int)) (h2 : y0 ≤ ((2 ^ k * dyK (8 - k) q : Nat) : Int)) (h3 : ((2 ^ k * dxK (8 - k) q + 2 ^ k : Nat) : Int) - 1 ≤ x1) (h4 : ((2 ^ k * dyK (8 - k) q + 2 ^ k : Nat) : Int) - 1 ≤ y1) :
    runsK (inC x0 y0 x1 y1) (4 ^ k * q + 4 ^ k) = addRun (runsK (inC x0 y0 x1 y1) (4 ^ k * q)) (4 ^ k * q) (4 ^ k * q + (4 ^ k - 1)) := by
  have hp : 0 < 4 ^ k := by rw [four_pow]; exact Nat.two_pow_pos _
  have := runsK_all (P := inC x0 y0 x1 y1) (c := 4 ^ k * q) (4 ^ k - 1) fun c g1 g2 => by
    have a := sq_x hk g1 (by omega)
    have b := sq_y hk g1 (by omega)
    have a2 := dxK_lt k (c - 4 ^ k * q)
    have b2 := dyK_lt k (c - 4 ^ k * q)
    unfold inC
    rw [a, b]
    simp only [Bool.and_eq_true, decide_eq_true_eq]
    generalize 2 ^ k * dxK (8 - k) q = X at *
    generalize 2 ^ k * dyK (8 - k) q = Y at *
    generalize 2 ^ k = W at *
    push_cast at h1 h2 h3 h4 ⊢
    omega
  rwa [show 4 ^ k * q + (4 ^ k - 1) + 1 = 4 ^ k * q + 4 ^ k from by omega] at this
/-- The code of a square's first place. -/
theorem sq_code {k q : Nat} (hk : k ≤ 8) (hq : 4 ^ k * q < 65536) : cdK 8 (2 ^ k * dxK (8 - k) q) (2 ^ k * dyK (8 - k) q) = 4 ^ k * q := by
  have hp : 0 < 4 ^ k := by rw [four_pow]; exact Nat.two_pow_pos _
  have a := sq_x hk (Nat.le_refl (4 ^ k * q)) (by omega)
  have b := sq_y hk (Nat.le_refl (4 ^ k * q)) (by omega)
  rw [Nat.sub_self] at a b
  have z1 : ∀ k, dxK k 0 = 0 := fun k => by induction k with
    | zero => exact dxK_0 0
    | succ k ih => rw [dxK_succ]; simp [ih]
  have z2 : ∀ k, dyK k 0 = 0 := fun k => by induction k with
    | zero => exact dyK_0 0
    | succ k ih => rw [dyK_succ]; simp [ih]
  rw [z1, Nat.add_zero] at a
  rw [z2, Nat.add_zero] at b
  rw [← a, ← b]
  exact cdK_d 8 _ (by omega)
/-- The reference's loop over sorted codes makes the spans. -/
theorem runs_fold (P : Nat → Bool) : ∀ N, ((List.range N).filter P).foldl (fun l c => addRun l c c) [] = runsK P N
  | 0 => rfl
  | N + 1 => by
    rw [List.range_succ, List.filter_append, List.foldl_append, runs_fold P N]
    cases h : P N with
    | true => rw [runsK_yes h]; simp [h]
    | false => rw [runsK_no h]; simp [h]
attribute [irreducible] addRun runsK flatR inC
end Go.Dam
