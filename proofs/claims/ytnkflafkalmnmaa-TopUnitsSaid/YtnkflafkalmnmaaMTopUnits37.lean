/-
  The plain law of rectangles of one place: all together have as many places as there are unlike points, and the depth is how often a point stands there at most. Conditions: none.
-/
import Derived.Test.YtnkflafkalmnmaaMTopUnits36
namespace Go.Dam.Klee
open Go Go.Dam
set_option linter.unusedVariables false
theorem sumI_add (f g : Int → Int) (a : Int) : ∀ n : Nat, sumI (fun x => f x + g x) a n = sumI f a n + sumI g a n
  | 0 => rfl
  | n + 1 => by rw [sumI, sumI, sumI, sumI_add f g a n]; omega
theorem span_add (f g : Int → Int) (a b : Int) : span (fun x => f x + g x) a b = span f a b + span g a b := sumI_add f g a _
theorem span_point {p a b t : Int} (h1 : a ≤ p) (h2 : p < b) : span (fun x => if x = p then t else 0) a b = t := by
  rw [span_split (a := a) (b := p) (c := b) h1 (by omega), span_split (a := p) (b := p + 1) (c := b) (by omega) (by omega)]
  rw [span_const (c := 0) h1 (fun x _ hx => by rw [if_neg (by omega)]), span_const (c := t) (by omega) (fun x hx hx2 => by rw [if_pos (by omega)]), span_const (c := 0) (by omega) (fun x hx _ => by rw [if_neg (by omega)])]
  rw [show p + 1 - p = 1 by omega, Int.one_mul, Int.mul_zero, Int.mul_zero]; omega
section
variable (px py : Nat → Int)
/-- The rectangles of one place, flat. -/
def unitL : Nat → List Int
  | 0 => []
  | n + 1 => unitL n ++ [px n, py n, px n, py n]
theorem unitL_0 : unitL px py 0 = [] := rfl
theorem unitL_s (n : Nat) : unitL px py (n + 1) = unitL px py n ++ [px n, py n, px n, py n] := rfl
theorem unitL_len : ∀ n, (unitL px py n).length = n * 4
  | 0 => rfl
  | n + 1 => by rw [unitL_s, List.length_append, unitL_len n]; simp; omega
theorem unitL_at {i : Nat} : ∀ {n : Nat}, i < n → (unitL px py n).getD (i * 4) 0 = px i ∧ (unitL px py n).getD (i * 4 + 1) 0 = py i ∧ (unitL px py n).getD (i * 4 + 2) 0 = px i ∧ (unitL px py n).getD (i * 4 + 3) 0 = py i
  | 0, h => absurd h (by omega)
  | n + 1, h => by
    have hl := unitL_len px py n
    rw [unitL_s]
    simp only [List.getD_eq_getElem?_getD]
    rcases Nat.lt_or_ge i n with h1 | h1
    · have ih := unitL_at h1
      simp only [List.getD_eq_getElem?_getD] at ih
      rw [List.getElem?_append_left (by omega), List.getElem?_append_left (by omega), List.getElem?_append_left (by omega), List.getElem?_append_left (by omega)]
      exact ih
    · obtain rfl : i = n := by omega
      rw [List.getElem?_append_right (by omega), List.getElem?_append_right (by omega), List.getElem?_append_right (by omega), List.getElem?_append_right (by omega), hl]
      rw [show i * 4 - i * 4 = 0 by omega, show i * 4 + 1 - i * 4 = 1 by omega, show i * 4 + 2 - i * 4 = 2 by omega, show i * 4 + 3 - i * 4 = 3 by omega]
      exact ⟨rfl, rfl, rfl, rfl⟩
/-- How often a place stands among the first n points. -/
def cntXY (x y : Int) : Nat → Int
  | 0 => 0
  | n + 1 => cntXY x y n + if x = px n ∧ y = py n then 1 else 0
theorem cntXY_nonneg (x y : Int) : ∀ n, 0 ≤ cntXY px py x y n
  | 0 => Int.le_refl _
  | n + 1 => by have := cntXY_nonneg x y n; rw [cntXY]; split <;> omega
theorem cntXY_pos {x y : Int} : ∀ {n : Nat}, 0 < cntXY px py x y n → ∃ i, i < n ∧ x = px i ∧ y = py i
  | 0, h => by simp [cntXY] at h
  | n + 1, h => by
    rw [cntXY] at h
    by_cases c : x = px n ∧ y = py n
    · exact ⟨n, by omega, c⟩
    · rw [if_neg c] at h
      have h2 : 0 < cntXY px py x y n := by omega
      obtain ⟨i, hi, e⟩ := cntXY_pos h2
      exact ⟨i, by omega, e⟩
theorem cntXY_mem {x y : Int} {i : Nat} : ∀ {n : Nat}, i < n → x = px i → y = py i → 0 < cntXY px py x y n
  | 0, h, _, _ => absurd h (by omega)
  | n + 1, h, hx, hy => by
    have := cntXY_nonneg px py x y n
    rw [cntXY]
    rcases Nat.lt_or_ge i n with h1 | h1
    · have := cntXY_mem h1 hx hy; split <;> omega
    · obtain rfl : i = n := by omega
      rw [if_pos ⟨hx, hy⟩]; omega
theorem deep_unit (N : Nat) (x y : Int) : ∀ n, n ≤ N → deepN (unitL px py N) n x y = cntXY px py x y n
  | 0, _ => by rw [deepN_0]; rfl
  | n + 1, h => by
    obtain ⟨e0, e1, e2, e3⟩ := unitL_at px py (i := n) (n := N) (by omega)
    rw [deepN_s, deep_unit N x y n (by omega), e0, e1, e2, e3, cntXY]
    congr 1
    by_cases c : x = px n ∧ y = py n
    · rw [if_pos c, if_pos (by unfold inR; simp; omega)]
    · rw [if_neg c, if_neg (by unfold inR; simp; omega)]
variable (code : Nat → Int)
/-- The unlike codes, in the order of their first places. -/
def uq : Nat → List Int
  | 0 => []
  | n + 1 => if code n ∈ uq n then uq n else uq n ++ [code n]
theorem uq_mem {z : Int} : ∀ n, z ∈ uq code n ↔ ∃ i, i < n ∧ code i = z
  | 0 => by simp [uq]
  | n + 1 => by
    have ih := uq_mem (z := z) n
    rw [uq]
    split
    · rename_i h
      rw [ih]
      constructor
      · rintro ⟨i, hi, e⟩; exact ⟨i, by omega, e⟩
      · rintro ⟨i, hi, e⟩
        rcases Nat.lt_or_ge i n with h1 | h1
        · exact ⟨i, h1, e⟩
        · obtain rfl : i = n := by omega
          rw [e] at h; exact ih.1 h
    · rw [List.mem_append, ih, List.mem_singleton]
      constructor
      · rintro (⟨i, hi, e⟩ | rfl)
        · exact ⟨i, by omega, e⟩
        · exact ⟨n, by omega, rfl⟩
      · rintro ⟨i, hi, e⟩
        rcases Nat.lt_or_ge i n with h1 | h1
        · exact .inl ⟨i, h1, e⟩
        · obtain rfl : i = n := by omega
          exact .inr e.symm
theorem uq_nodup : ∀ n, (uq code n).Nodup
  | 0 => by simp [uq]
  | n + 1 => by
    rw [uq]
    split
    · exact uq_nodup n
    · rename_i h
      rw [List.nodup_append]
      exact ⟨uq_nodup n, by simp, fun a ha b hb e => by simp at hb; subst hb; subst e; exact h ha⟩
/-- The area of the first n, in a box that holds all of them. -/
theorem area_uq {N : Nat} (hinj : ∀ i j, i < N → j < N → (code i = code j ↔ px i = px j ∧ py i = py j)) {xa xb ya yb : Int} (hb : ∀ i, i < N → xa ≤ px i ∧ px i < xb ∧ ya ≤ py i ∧ py i < yb) :
    ∀ n, n ≤ N → span (fun x => span (fun y => ind (cntXY px py x y n)) ya yb) xa xb = ((uq code n).length : Int)
  | 0, _ => by
    have h0 : ∀ a b : Int, span (fun _ => (0 : Int)) a b = 0 := fun a b => by
      unfold span; rw [sumI_const (c := 0) fun i hi => rfl, Int.mul_zero]
    have e : (fun x => span (fun y => ind (cntXY px py x y 0)) ya yb) = fun _ => (0 : Int) := funext fun x => by
      have : (fun y => ind (cntXY px py x y 0)) = fun _ => (0 : Int) := funext fun y => by show ind 0 = 0; rfl
      rw [this, h0]
    rw [e, h0]; rfl
  | n + 1, hn => by
    have ih := area_uq hinj hb n (by omega)
    obtain ⟨b1, b2, b3, b4⟩ := hb n (by omega)
    have hm : code n ∈ uq code n ↔ 0 < cntXY px py (px n) (py n) n := by
      rw [uq_mem]
      constructor
      · rintro ⟨i, hi, e⟩
        have := (hinj i n (by omega) (by omega)).1 e
        exact cntXY_mem px py hi this.1.symm this.2.symm
      · intro h
        obtain ⟨i, hi, e1, e2⟩ := cntXY_pos px py h
        exact ⟨i, hi, (hinj i n (by omega) (by omega)).2 ⟨e1.symm, e2.symm⟩⟩
    obtain ⟨t, ht⟩ : ∃ t : Int, t = if 0 < cntXY px py (px n) (py n) n then 0 else 1 := ⟨_, rfl⟩
    have e : ∀ x y, ind (cntXY px py x y (n + 1)) = ind (cntXY px py x y n) + if x = px n then (if y = py n then t else 0) else 0 := fun x y => by
      rw [cntXY]
      by_cases c : x = px n ∧ y = py n
      · obtain ⟨rfl, rfl⟩ := c
        rw [if_pos ⟨rfl, rfl⟩, if_pos rfl, if_pos rfl, ht]
        have h0 := cntXY_nonneg px py (px n) (py n) n
        by_cases c2 : 0 < cntXY px py (px n) (py n) n
        · rw [if_pos c2, ind_pos (by omega), ind_pos c2]; rfl
        · rw [if_neg c2, ind_pos (by omega), ind_neg c2]; rfl
      · rw [if_neg c, Int.add_zero]
        by_cases c1 : x = px n
        · rw [if_pos c1, if_neg (fun c2 => c ⟨c1, c2⟩), Int.add_zero]
        · rw [if_neg c1, Int.add_zero]
    have e2 : (fun x => span (fun y => ind (cntXY px py x y (n + 1))) ya yb) = fun x => span (fun y => ind (cntXY px py x y n)) ya yb + if x = px n then t else 0 := funext fun x => by
      have : (fun y => ind (cntXY px py x y (n + 1))) = fun y => ind (cntXY px py x y n) + if x = px n then (if y = py n then t else 0) else 0 := funext fun y => e x y
      rw [this, span_add]
      congr 1
      by_cases c1 : x = px n
      · simp only [if_pos c1]; exact span_point b3 b4
      · simp only [if_neg c1]
        unfold span; rw [sumI_const (c := 0) fun i hi => rfl, Int.mul_zero]
    rw [e2, span_add, ih, span_point b1 b2, ht, uq]
    by_cases c : 0 < cntXY px py (px n) (py n) n
    · rw [if_pos c, if_pos (hm.2 c)]; omega
    · rw [if_neg c, if_neg (fun h => c (hm.1 h)), List.length_append]; simp
/-- The area of rectangles of one place: as many as there are unlike codes. -/
theorem area_unit {N : Nat} {cs vs : List Int} (hc : cs.length = N) (hcs : ∀ i, i < N → cs.getD i 0 = code i) (hv : ValsR cs vs) (hinj : ∀ i j, i < N → j < N → (code i = code j ↔ px i = px j ∧ py i = py j)) : areaV (unitL px py N) N = (vs.length : Int) := by
  have hu : (uq code N).length = vs.length := by
    have hmem : ∀ z, z ∈ vs ↔ z ∈ uq code N := fun z => by
      rw [hv.2, uq_mem]
      constructor
      · intro h
        obtain ⟨i, hi, e⟩ := mem_getD h
        exact ⟨i, by omega, by rw [← hcs i (by omega)]; exact e⟩
      · rintro ⟨i, hi, e⟩
        rw [← e, ← hcs i hi]; exact getD_mem (by omega)
    have a := nodup_mem_len _ _ (uq_nodup code N) fun z hz => (hmem z).2 hz
    have b := nodup_mem_len _ _ (hv.1.imp fun h => by omega) fun z hz => (hmem z).1 hz
    omega
  rcases Nat.eq_zero_or_pos N with h0 | h0
  · subst h0
    have : uq code 0 = [] := rfl
    rw [this] at hu
    rw [areaV_def, ← hu]; rfl
  · have hX := cutRow_sort (xsOf (unitL px py N) N)
    have hY := cutRow_sort (ysOf (unitL px py N) N)
    have lx : (sortI (xsOf (unitL px py N) N)).length = 2 * N := by rw [sortI_len, xs_len]
    have ly : (sortI (ysOf (unitL px py N) N)).length = 2 * N := by rw [sortI_len, ys_len]
    have a := area_cuts hX.cutsX hY.cutsY
    rw [areaV_def, ← hu, ← area_uq px py code hinj (xa := (sortI (xsOf (unitL px py N) N)).getD 0 0) (xb := (sortI (xsOf (unitL px py N) N)).getD ((sortI (xsOf (unitL px py N) N)).length - 1) 0) (ya := (sortI (ysOf (unitL px py N) N)).getD 0 0) (yb := (sortI (ysOf (unitL px py N) N)).getD ((sortI (ysOf (unitL px py N) N)).length - 1) 0) (fun i hi => ?_) N (Nat.le_refl _)]
    · rw [← lx]
      refine Eq.trans ?_ (a.symm.trans ?_)
      · rfl
      · unfold areaIn
        have : (fun x => span (fun y => ind (deep (rcs (unitL px py N) N) x y)) ((sortI (ysOf (unitL px py N) N)).getD 0 0) ((sortI (ysOf (unitL px py N) N)).getD ((sortI (ysOf (unitL px py N) N)).length - 1) 0)) = fun x => span (fun y => ind (cntXY px py x y N)) ((sortI (ysOf (unitL px py N) N)).getD 0 0) ((sortI (ysOf (unitL px py N) N)).getD ((sortI (ysOf (unitL px py N) N)).length - 1) 0) := funext fun x => by
          congr 1
          exact funext fun y => congrArg ind (deep_unit px py N x y N (Nat.le_refl _))
        rw [this]
    · obtain ⟨e0, e1, e2, e3⟩ := unitL_at px py hi
      have m1 := mem_xs (l := unitL px py N) hi
      have m2 := mem_ys (l := unitL px py N) hi
      rw [e0, e2] at m1
      rw [e1, e3] at m2
      obtain ⟨k1, hk1, f1⟩ := mem_getD ((hX.2 _).2 m1.1)
      obtain ⟨k2, hk2, f2⟩ := mem_getD ((hX.2 _).2 m1.2)
      obtain ⟨k3, hk3, f3⟩ := mem_getD ((hY.2 _).2 m2.1)
      obtain ⟨k4, hk4, f4⟩ := mem_getD ((hY.2 _).2 m2.2)
      have g1 := hX.le (i := 0) (j := k1) (by omega) hk1
      have g2 := hX.le (i := k2) (j := (sortI (xsOf (unitL px py N) N)).length - 1) (by omega) (by omega)
      have g3 := hY.le (i := 0) (j := k3) (by omega) hk3
      have g4 := hY.le (i := k4) (j := (sortI (ysOf (unitL px py N) N)).length - 1) (by omega) (by omega)
      omega
/-- How many of the first n ranks are that of i. -/
def sameC (rs : List Int) (i : Nat) : Nat → Int
  | 0 => 0
  | n + 1 => sameC rs i n + if rs.getD n 0 = rs.getD i 0 then 1 else 0
theorem sameC_0 (rs : List Int) (i : Nat) : sameC rs i 0 = 0 := rfl
theorem sameC_s (rs : List Int) (i n : Nat) : sameC rs i (n + 1) = sameC rs i n + if rs.getD n 0 = rs.getD i 0 then 1 else 0 := rfl
theorem sameC_bd (rs : List Int) (i : Nat) : ∀ n : Nat, 0 ≤ sameC rs i n ∧ sameC rs i n ≤ n
  | 0 => by rw [sameC_0]; omega
  | n + 1 => by have := sameC_bd rs i n; rw [sameC_s]; split <;> omega
def mostC (rs : List Int) (N : Nat) : Nat → Int
  | 0 => 0
  | n + 1 => max (mostC rs N n) (sameC rs n N)
theorem mostC_0 (rs : List Int) (N : Nat) : mostC rs N 0 = 0 := rfl
theorem mostC_s (rs : List Int) (N n : Nat) : mostC rs N (n + 1) = max (mostC rs N n) (sameC rs n N) := rfl
theorem mostC_ge (rs : List Int) (N : Nat) {i : Nat} : ∀ {n : Nat}, i < n → sameC rs i N ≤ mostC rs N n
  | 0, h => absurd h (by omega)
  | n + 1, h => by
    rw [mostC_s]
    rcases Nat.lt_or_ge i n with h1 | h1
    · have := mostC_ge rs N h1; omega
    · obtain rfl : i = n := by omega
      omega
theorem mostC_at (rs : List Int) (N : Nat) : ∀ n, mostC rs N n = 0 ∨ ∃ i, i < n ∧ mostC rs N n = sameC rs i N
  | 0 => .inl rfl
  | n + 1 => by
    have ih := mostC_at rs N n
    rw [mostC_s]
    rcases Int.le_total (mostC rs N n) (sameC rs n N) with h | h
    · exact .inr ⟨n, by omega, by omega⟩
    · rw [show max (mostC rs N n) (sameC rs n N) = mostC rs N n by omega]
      rcases ih with h1 | ⟨i, hi, h1⟩
      · exact .inl h1
      · exact .inr ⟨i, by omega, h1⟩
theorem mostC_nonneg (rs : List Int) (N : Nat) : ∀ n, 0 ≤ mostC rs N n
  | 0 => Int.le_refl _
  | n + 1 => by have := mostC_nonneg rs N n; rw [mostC_s]; omega
theorem depth_unit {N : Nat} {rs : List Int} (hrs : ∀ i j, i < N → j < N → (rs.getD j 0 = rs.getD i 0 ↔ px j = px i ∧ py j = py i)) : depthV (unitL px py N) N = mostC rs N N := by
  have hs : ∀ i, i < N → ∀ n, n ≤ N → sameC rs i n = cntXY px py (px i) (py i) n := fun i hi n => by
    induction n with
    | zero => intro _; rfl
    | succ n ih =>
      intro hn
      rw [sameC_s, cntXY, ih (by omega)]
      congr 1
      by_cases c : rs.getD n 0 = rs.getD i 0
      · have := (hrs i n hi (by omega)).1 c
        rw [if_pos c, if_pos ⟨this.1.symm, this.2.symm⟩]
      · rw [if_neg c, if_neg fun h => c ((hrs i n hi (by omega)).2 ⟨h.1.symm, h.2.symm⟩)]
  have h1 : DepthIs (unitL px py N) N (mostC rs N N) := by
    refine ⟨fun x y => ?_, mostC_nonneg _ _ _, ?_⟩
    · rw [deep_unit px py N x y N (Nat.le_refl _)]
      rcases Int.lt_or_le 0 (cntXY px py x y N) with h | h
      · obtain ⟨i, hi, e1, e2⟩ := cntXY_pos px py h
        rw [e1, e2, ← hs i hi N (Nat.le_refl _)]
        exact mostC_ge rs N hi
      · exact Int.le_trans h (mostC_nonneg _ _ _)
    · rcases mostC_at rs N N with h | ⟨i, hi, h⟩
      · exact .inl h
      · exact .inr ⟨px i, py i, by rw [deep_unit px py N _ _ N (Nat.le_refl _), h, hs i hi N (Nat.le_refl _)]⟩
  have h2 := depI_is (l := unitL px py N) (n := N) (cutRow_sort _) (cutRow_sort _)
  rw [show (sortI (xsOf (unitL px py N) N)).length - 1 = 2 * N - 1 by rw [sortI_len, xs_len], ← depthV_def] at h2
  exact h2.uniq h1
end
attribute [irreducible] unitL cntXY sameC mostC uq
end Go.Dam.Klee
