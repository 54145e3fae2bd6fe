/-
  How a slice of structs of m ints lies in memory: one flat list of ints, m for each element; and how the argument is opened to it. Conditions: none; nothing here names the program.
-/
import Derived.Test.YtaipnjoeejgnnaaLib
namespace Go.Dam
open Go Go.RowKit Go.ChangeShapes Go.WideShapes Go.Joins Go.Deep
set_option linter.unusedVariables false
/-- The slice value reads as n elements of m ints each; l is all of them, one behind the other. -/
def IsFlat (m : Nat) (w : World) (B : Nat) (v : Value) (n : Nat) (l : List Int) : Prop :=
  ∃ A c, v = .slice A n c ∧ n ≤ c ∧ c ≤ maxLen ∧ n ≤ 140737488351232 ∧ l.length = n * m ∧ Reads w B m A n (l.map (Value.int .i64)) ∧ ∀ z ∈ l, (Lit.int .i64 z).wf = true
section
variable {m n : Nat} {w w' : World} {B B' : Nat} {v : Value} {l : List Int} {A : Option Addr}
theorem IsFlat.below (h : IsFlat m w B v n l) (hb : Below B w w') : IsFlat m w' B v n l := by
  obtain ⟨A, c, rfl, h1, h2, h5, h6, h3, h4⟩ := h
  exact ⟨A, c, rfl, h1, h2, h5, h6, h3.below hb, h4⟩
theorem IsFlat.more (h : IsFlat m w B v n l) (hB : B ≤ B') : IsFlat m w B' v n l := by
  obtain ⟨A, c, rfl, h1, h2, h5, h6, h3, h4⟩ := h
  exact ⟨A, c, rfl, h1, h2, h5, h6, h3.more hB, h4⟩
theorem flat_cells (hr : Reads w B m A n (l.map (Value.int .i64))) (hl : l.length = n * m) (hn : 0 < n) (hm : 0 < m) :
    ∃ b off, A = some ⟨b, off, none⟩ ∧ b < B ∧ ∀ j, j < n * m → w.cell? ⟨b, off + j, none⟩ = some (.int .i64 (l.getD j 0)) := by
  obtain ⟨ad, e, hb, hc⟩ := hr.2 hn
  obtain ⟨b, off, sp⟩ := ad
  have key : ∀ j, j < n * m → w.cell? ((⟨b, off, sp⟩ : Addr).add j) = some (.int .i64 (l.getD j 0)) := by
    intro j hj
    refine hc j _ ?_
    have : j < l.length := by omega
    simp [this]
  have h0 := key 0 (Nat.mul_pos hn hm)
  have hsp : sp = none := by simpa [Addr.add] using cell_spot h0
  subst hsp
  refine ⟨b, off, e, hb, fun j hj => ?_⟩
  have hu := key j hj
  unfold Addr.add at hu
  split at hu
  · rename_i h0; subst h0; exact hu
  · exact hu
theorem flat_wf (hw : ∀ z ∈ l, (Lit.int .i64 z).wf = true) (j : Nat) : I64 (l.getD j 0) := by
  rcases Nat.lt_or_ge j l.length with h | h
  · have : l.getD j 0 = l[j] := by simp [h]
    rw [this]
    exact wf_i64 (hw _ (List.getElem_mem h))
  · have : l.getD j 0 = 0 := by simp [h]
    rw [this]; unfold I64; omega
end
section
variable {H : Type} {enc : TypeId × Value → H} {P : Program} {w : World} {base : Nat} {spare : Nat → Bool} {held : Bool}
/-- Whatever slice of structs of m ints can be read as data. -/
theorem open_flat {t e : TypeId} {fs : Array Field} {m fuel : Nat} {cs : List Value} {x : DataW H × List MemPlace} (ht : P.underlying t = some (.slice e)) (he : P.underlying e = some (.struct fs)) (hone : oneCellFields P fs = true)
    (hC : P.cellsOf e = m) (hm : fs.size = m) (hm0 : 0 < m) (hfs : ∀ f ∈ fs.toList, P.underlying f.type = some (.int .i64)) (h : DataW.trod enc P w base spare held fuel t cs = some x) (hz : Sized P t x.1) :
    ∃ A n c, ∃ l : List Int, cs = [.slice A n c] ∧ n ≤ c ∧ c ≤ maxLen ∧ n * P.bytesOf e ≤ reachBytes ∧ l.length = n * m ∧ Reads w w.heap.size m A n (l.map (Value.int .i64)) ∧ ∀ z ∈ l, (Lit.int .i64 z).wf = true := by
  obtain ⟨A, n, c, vs, rfl, hc, hcm, hby, hr, hi⟩ := open_reads ht hC hm0 h hz
  have hl : vs.length = n * m := hr.1
  have key : ∀ j, j < n * m → ∃ z, vs[j]? = some (.int .i64 z) ∧ (Lit.int .i64 z).wf = true := by
    intro j hj
    have hq : j / m < n := by rw [Nat.div_lt_iff_lt_mul hm0]; exact hj
    have hrm : j % m < m := Nat.mod_lt _ hm0
    obtain ⟨f, y, hy, _⟩ := hi (j / m) hq
    obtain ⟨ys, n', _, _, hlen, hyl, hf⟩ := DataW.trod_struct he hy
    have hfj : fs[j % m]? = some (fs[j % m]'(by omega)) := Array.getElem?_eq_getElem (by omega)
    obtain ⟨ho, hk⟩ := hone_of hone (j % m) _ hfj
    have h1 := hf (j % m) _ hfj
    rw [ho, hk] at h1
    have hys : ys[j % m]? = some (ys[j % m]'(by omega)) := List.getElem?_eq_getElem (by omega)
    rw [hys] at h1
    obtain ⟨z, hz1, _, hw1⟩ := DataW.trod_int (hfs _ (by simp)) h1
    refine ⟨z, ?_, hw1⟩
    have h2 : ((((vs.drop (j / m * m)).take m).drop (j % m)).take 1)[0]? = some (.int .i64 z) := by rw [hz1]; rfl
    rw [List.getElem?_take, if_pos (by omega), List.getElem?_drop, List.getElem?_take, if_pos (by omega), List.getElem?_drop] at h2
    rw [← h2]
    congr 1
    have := Nat.div_add_mod j m
    rw [Nat.mul_comm] at this
    omega
  refine ⟨A, n, c, vs.map intOf, rfl, hc, hcm, hby, by simpa using hl, ?_, ?_⟩
  · have : (vs.map intOf).map (Value.int .i64) = vs := by
      apply List.ext_getElem?
      intro j
      rcases Nat.lt_or_ge j (n * m) with hj | hj
      · obtain ⟨z, hz, _⟩ := key j hj
        simp [hz, intOf]
      · rw [List.getElem?_eq_none (by simp; omega), List.getElem?_eq_none (by omega)]
    rw [this]; exact hr
  · intro z hz
    obtain ⟨j, hj, rfl⟩ := List.mem_iff_getElem.1 hz
    have hj' : j < vs.length := by simpa using hj
    obtain ⟨z, hz, hw⟩ := key j (by omega)
    rw [List.getElem?_eq_getElem hj'] at hz
    have : vs[j] = .int .i64 z := by injection hz
    simpa [this, intOf] using hw
theorem arg_flat {r : Reach} {b0 : Nat} {t e : TypeId} {v : Value} {d : DataW H} {ps : List MemPlace} {fs : Array Field} {m : Nat} (ht : P.underlying t = some (.slice e)) (he : P.underlying e = some (.struct fs)) (hone : oneCellFields P fs = true)
    (hC : P.cellsOf e = m) (hm : fs.size = m) (hm0 : 0 < m) (hfs : ∀ f ∈ fs.toList, P.underlying f.type = some (.int .i64)) (hby : 1 ≤ P.bytesOf e)
    (hv : Value.okWide P w r b0 t v) (h : DataW.Trod enc P w base spare held t v d ps) (hz : Sized P t d) : ∃ n l, IsFlat m w w.heap.size v n l := by
  obtain ⟨a, len, cap, rfl⟩ := okWide_slice ht hv
  obtain ⟨fuel, hf⟩ := h
  obtain ⟨A, n, c, l, hcs, hc, hcm, hb, hl, hr, hw⟩ := open_flat ht he hone hC hm hm0 hfs hf hz
  simp only [Value.cells, List.cons.injEq, and_true] at hcs
  have : n * 1 ≤ n * P.bytesOf e := Nat.mul_le_mul_left _ hby
  have hr2 : reachBytes = 140737488351232 := rfl
  exact ⟨n, l, A, c, hcs, hc, hcm, by omega, hl, hr, hw⟩
end
/-- Elements of lists of ints by their first coordinates. -/
def coordOk (z : Int) : Bool := decide (-1048576 ≤ z ∧ z ≤ 1048576)
theorem coordOk_yes {z : Int} (h : coordOk z = true) : -1048576 ≤ z ∧ z ≤ 1048576 := by simpa [coordOk] using h
theorem coordOk_no {z : Int} (h : coordOk z = false) : z < -1048576 ∨ 1048576 < z := by
  rw [coordOk, decide_eq_false_iff_not] at h; omega
/-- Has a number below n the mark? -/
def anyN (p : Nat → Bool) (n : Nat) : Bool := (List.range n).any p
theorem anyN_yes {p : Nat → Bool} {n i : Nat} (hi : i < n) (h : p i = true) : anyN p n = true := by
  unfold anyN; rw [List.any_eq_true]; exact ⟨i, List.mem_range.2 hi, h⟩
theorem anyN_no {p : Nat → Bool} {n : Nat} (h : ∀ i, i < n → p i = false) : anyN p n = false := by
  unfold anyN; rw [List.any_eq_false]; intro i hi; rw [h i (List.mem_range.1 hi)]; simp
theorem anyN_false {p : Nat → Bool} {n : Nat} (h : anyN p n = false) : ∀ i, i < n → p i = false := by
  unfold anyN at h; rw [List.any_eq_false] at h
  intro i hi
  have := h i (List.mem_range.2 hi)
  simpa using this
theorem anyN_true {p : Nat → Bool} {n : Nat} (h : anyN p n = true) : ∃ i, i < n ∧ p i = true := by
  unfold anyN at h; rw [List.any_eq_true] at h
  obtain ⟨i, hi, hp⟩ := h
  exact ⟨i, List.mem_range.1 hi, hp⟩
attribute [irreducible] anyN coordOk
/-- The first number below n with the mark, or -1. -/
def FirstR (p : Nat → Bool) (n : Nat) (k : Int) : Prop := (k = -1 ∧ ∀ i, i < n → p i = false) ∨ ∃ i : Nat, i < n ∧ k = i ∧ p i = true ∧ ∀ j, j < i → p j = false
theorem FirstR.any {p : Nat → Bool} {n : Nat} {k : Int} (h : FirstR p n k) : decide (k ≥ 0) = anyN p n := by
  rcases h with ⟨rfl, h⟩ | ⟨i, hi, rfl, hp, _⟩
  · rw [anyN_no h]; rfl
  · rw [anyN_yes hi hp]; simp
theorem FirstR.bd {p : Nat → Bool} {n : Nat} {k : Int} (h : FirstR p n k) : -1 ≤ k ∧ k < n := by
  rcases h with ⟨rfl, h⟩ | ⟨i, hi, rfl, hp, _⟩ <;> omega
theorem FirstR.ex (p : Nat → Bool) : ∀ n, ∃ k, FirstR p n k
  | 0 => ⟨-1, .inl ⟨rfl, fun i hi => absurd hi (by omega)⟩⟩
  | n + 1 => by
    obtain ⟨k, hk⟩ := FirstR.ex p n
    rcases hk with ⟨rfl, h⟩ | ⟨i, hi, rfl, hp, hj⟩
    · cases hn : p n
      · exact ⟨-1, .inl ⟨rfl, fun i hi => by rcases Nat.lt_or_ge i n with h1 | h1; exact h i h1; rw [show i = n from by omega]; exact hn⟩⟩
      · exact ⟨n, .inr ⟨n, by omega, rfl, hn, h⟩⟩
    · exact ⟨i, .inr ⟨i, by omega, rfl, hp, hj⟩⟩
theorem FirstR.is {p : Nat → Bool} {n i : Nat} {k : Int} (h : FirstR p n k) (hi : i < n) (hp : p i = true) (hno : ∀ j, j < i → p j = false) : k = i := by
  rcases h with ⟨rfl, h⟩ | ⟨i', hi', rfl, hp', hno'⟩
  · rw [h i hi] at hp; cases hp
  · rcases Nat.lt_trichotomy i i' with h | h | h
    · rw [hno' i h] at hp; cases hp
    · rw [h]
    · rw [hno i' h] at hp'; cases hp'
theorem FirstR.none_ {p : Nat → Bool} {n : Nat} {k : Int} (h : FirstR p n k) (hno : ∀ j, j < n → p j = false) : k = -1 := by
  rcases h with ⟨rfl, h⟩ | ⟨i', hi', rfl, hp', hno'⟩
  · rfl
  · rw [hno i' hi'] at hp'; cases hp'
theorem no_step {p : Nat → Bool} {i : Nat} (h : ∀ j, j < i → p j = false) (hi : p i = false) : ∀ j, j < i + 1 → p j = false := by
  intro j hj
  rcases Nat.lt_or_ge j i with h1 | h1
  · exact h j h1
  · rw [show j = i from by omega]; exact hi
theorem not3_cases {x y z b : Bool} (h : (!(x && (y && z))) = b) : (b = true ∧ x = false) ∨ (b = true ∧ x = true ∧ y = false) ∨ (b = true ∧ x = true ∧ y = true ∧ z = false) ∨ (b = false ∧ x = true ∧ y = true ∧ z = true) := by
  subst h; cases x <;> cases y <;> cases z <;> simp
end Go.Dam
