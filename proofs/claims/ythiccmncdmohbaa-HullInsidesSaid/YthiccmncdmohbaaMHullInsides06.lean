/-
  How a slice of slices of ints lies in memory: a list of lists; how such an argument is opened, and how one is made. Conditions: none; nothing here names the program.
-/
import Derived.Test.YthiccmncdmohbaaMHullInsides04
import Derived.Test.YthiccmncdmohbaaMHullInsides00
set_option linter.unusedVariables false
set_option linter.unusedSimpArgs false
namespace Go.Dam
open Go Go.RowKit Go.ChangeShapes Go.WideShapes Go.Joins Go.Deep
set_option linter.unusedVariables false
/-- The slice value reads as the lists ls. -/
def IsRows (w : World) (B : Nat) (v : Value) (ls : List (List Int)) : Prop :=
  ∃ A c vs, v = .slice A ls.length c ∧ ls.length ≤ c ∧ c ≤ maxLen ∧ ls.length ≤ 140737488351232 ∧ vs.length = ls.length ∧ Reads w B 1 A ls.length vs ∧ ∀ i, i < ls.length → IsInts .i64 w B (vs.getD i undef) (ls.getD i [])
section
variable {w w' : World} {B B' : Nat} {v : Value} {ls : List (List Int)}
theorem IsRows.below (h : IsRows w B v ls) (hb : Below B w w') : IsRows w' B v ls := by
  obtain ⟨A, c, vs, rfl, h1, h2, h3, h4, h5, h6⟩ := h
  exact ⟨A, c, vs, rfl, h1, h2, h3, h4, h5.below hb, fun i hi => (h6 i hi).below hb⟩
theorem IsRows.more (h : IsRows w B v ls) (hB : B ≤ B') : IsRows w B' v ls := by
  obtain ⟨A, c, vs, rfl, h1, h2, h3, h4, h5, h6⟩ := h
  exact ⟨A, c, vs, rfl, h1, h2, h3, h4, h5.more hB, fun i hi => (h6 i hi).more hB⟩
/-- Where the rows lie: the address of the outer row, and each row's value in it. -/
theorem IsRows.cells {A : Option Addr} {c : Nat} {vs : List Value} (hl : vs.length = ls.length) (hr : Reads w B 1 A ls.length vs) (hn : 0 < ls.length) :
    ∃ b off, A = some ⟨b, off, none⟩ ∧ b < B ∧ ∀ i, i < ls.length → w.cell? ⟨b, off + i, none⟩ = some (vs.getD i undef) := by
  obtain ⟨b, off, e, hb, hc⟩ := hr.addr hn
  refine ⟨b, off, e, hb, fun i hi => ?_⟩
  obtain ⟨u, hx, hu⟩ := hc i hi
  rw [hu]
  simp [List.getD_eq_getElem?_getD, hx]
theorem isRows_nil (w : World) (B : Nat) : IsRows w B (.slice none 0 0) [] :=
  ⟨none, 0, [], rfl, by simp, by unfold maxLen; omega, by simp, rfl, ⟨by simp, fun h => absurd h (by simp)⟩, fun i hi => absurd hi (by simp)⟩
end
section
variable {H : Type} {enc : TypeId × Value → H} {P : Program} {w : World} {base : Nat} {spare : Nat → Bool} {held : Bool}
variable {r : Reach} {b0 : Nat} {t e ee : TypeId} {v : Value} {d : DataW H} {ps : List MemPlace}
theorem arg_rows (ht : P.underlying t = some (.slice e)) (he : P.underlying e = some (.slice ee)) (hee : P.underlying ee = some (.int .i64)) (hs : P.cellsOf e = 1) (hs' : P.cellsOf ee = 1) (hby : 1 ≤ P.bytesOf e) (hby' : 1 ≤ P.bytesOf ee)
    (hv : Value.okWide P w r b0 t v) (h : DataW.Trod enc P w base spare held t v d ps) (hz : Sized P t d) : ∃ ls, IsRows w w.heap.size v ls := by
  obtain ⟨a, len, cap, rfl⟩ := okWide_slice ht hv
  obtain ⟨fuel, hf⟩ := h
  obtain ⟨A, n, c, vs, hcs, hc, hm, hb, hr, hi⟩ := open_reads ht hs (by omega) hf hz
  simp only [Value.cells, List.cons.injEq, and_true] at hcs
  have hl : vs.length = n := by have := hr.1; omega
  have key : ∀ i, i < n → ∃ l, IsInts .i64 w w.heap.size (vs.getD i undef) l := by
    intro i hin
    obtain ⟨f, y, hy, hyz⟩ := hi i hin
    have h0 : (vs.drop (i * 1)).take 1 = [vs.getD i undef] := by
      have hiv : i < vs.length := by omega
      rw [Nat.mul_one, List.drop_eq_getElem_cons hiv, List.take_succ_cons, List.take_zero, List.getD_eq_getElem?_getD, List.getElem?_eq_getElem hiv]; rfl
    rw [h0] at hy
    exact ints_of he hee hs' hby' hy hyz
  have hr2 : reachBytes = 140737488351232 := rfl
  have : n * 1 ≤ n * P.bytesOf e := Nat.mul_le_mul_left _ hby
  obtain ⟨F, hF⟩ : ∃ F : Nat → List Int, ∀ i, i < n → IsInts .i64 w w.heap.size (vs.getD i undef) (F i) := by
    classical
    exact ⟨fun i => if h : i < n then Classical.choose (key i h) else [], fun i h => by simpa only [dif_pos h] using Classical.choose_spec (key i h)⟩
  let ls := (List.range n).map F
  have hln : ls.length = n := by simp [ls]
  refine ⟨ls, A, c, vs, by rw [hln]; exact hcs, by rw [hln]; exact hc, hm, by rw [hln]; omega, by rw [hln]; exact hl, by rw [hln]; exact hr, fun i hi => ?_⟩
  rw [hln] at hi
  have e1 : ls.getD i [] = F i := by
    simp only [ls, List.getD_eq_getElem?_getD, List.getElem?_map, List.getElem?_range hi, Option.map_some, Option.getD_some]
  rw [e1]
  exact hF i hi
end
section
variable {w w' : World} {base B : Nat} {e : TypeId} {size n : Nat} {v : Value} {xs : List Value}
/-- A row of the call's own is kept over what comes later in new blocks. -/
theorem own_below (h : w.ownsRow base e size v n xs) (hb : Below B w w') (hB : ∀ g, v.ownBlock = some g → g < B) : w'.ownsRow base e size v n xs := by
  refine ⟨h.1, ?_⟩
  rcases h.2 with hn | ⟨g, cap, cur, rfl, h1, h2, rest⟩
  · exact .inl hn
  · exact .inr ⟨g, cap, cur, rfl, h1, (hb.block g (hB g rfl)).trans h2, rest⟩
theorem own_size (h : w.ownsRow base e size v n xs) (hb : Below w.heap.size w w') : w'.ownsRow base e size v n xs := own_below h hb fun g hg => (h.lt g hg).2
theorem own_base {base' : Nat} (h : w.ownsRow base e size v n xs) (hB : base' ≤ base) : w.ownsRow base' e size v n xs := by
  refine ⟨h.1, ?_⟩
  rcases h.2 with hn | ⟨g, cap, cur, rfl, h1, rest⟩
  · exact .inl hn
  · exact .inr ⟨g, cap, cur, rfl, by omega, rest⟩
/-- Rows of different element types do not lie in one block. -/
theorem own_apart {base' : Nat} {e' : TypeId} {size' n' : Nat} {u : Value} {ys : List Value} (h : w.ownsRow base e size v n xs) (h' : w.ownsRow base' e' size' u n' ys) (hne : e ≠ e') : Apart v u := by
  intro g h1 h2
  rcases h.2 with ⟨rfl, _⟩ | ⟨k, cap, cur, rfl, _, hk, _⟩
  · cases h1
  · rcases h'.2 with ⟨rfl, _⟩ | ⟨k', cap', cur', rfl, _, hk', _⟩
    · cases h2
    · simp only [Value.ownBlock, Option.some.injEq] at h1 h2
      subst h1 h2
      rw [hk] at hk'
      injection hk' with hk'
      injection hk' with _ ht
      exact hne ht
/-- The last element is cut off. -/
theorem own_pop {x : Value} {A : Option Addr} {c : Nat} (h : w.ownsRow base e 1 (.slice A (n + 1) c) (n + 1) (xs ++ [x])) : w.ownsRow base e 1 (.slice A n c) n xs := by
  have hl := h.1
  rw [List.length_append, List.length_singleton] at hl
  refine ⟨by omega, ?_⟩
  rcases h.2 with ⟨hn, _⟩ | ⟨g, cap, cur, hv, h1, h2, h3, h4, h5, h6⟩
  · injection hn with _ hn _; omega
  · obtain ⟨rfl, rfl⟩ : A = some ⟨g, 0, none⟩ ∧ c = cap := by injection hv with a b c; exact ⟨a, c⟩
    refine .inr ⟨g, c, cur, rfl, h1, h2, by omega, h4, h5, ?_⟩
    rw [Nat.mul_one] at h6 ⊢
    have := congrArg (List.take n) h6
    rw [List.take_take, Nat.min_eq_left (by omega), List.take_left' (by omega)] at this
    exact this
/-- The last element's cell. -/
theorem own_top {x : Value} {A : Option Addr} {c : Nat} (h : w.ownsRow base e 1 (.slice A (n + 1) c) (n + 1) (xs ++ [x])) : ∃ g, A = some ⟨g, 0, none⟩ ∧ base ≤ g ∧ w.cell? ⟨g, n, none⟩ = some x := by
  obtain ⟨g, cap, hv, hg, _⟩ := h.form (by omega)
  injection hv with a b c
  subst a
  have hl := h.1
  rw [List.length_append, List.length_singleton] at hl
  refine ⟨g, rfl, hg, ?_⟩
  rw [h.cellAt n (by omega)]
  rw [List.getElem?_append_right (by omega), show n - xs.length = 0 from by omega]; rfl
end
/-- Rows of the call's own, told by their values. -/
def OwnRows (t : TypeId) (w : World) (base : Nat) (vs : List Value) (ls : List (List Int)) : Prop :=
  vs.length = ls.length ∧ ∀ i, i < ls.length → w.ownsRow base t 1 (vs.getD i undef) (ls.getD i []).length ((ls.getD i []).map (Value.int .i64))
section
variable {t to : TypeId} {w w' : World} {base base' n : Nat} {v u : Value} {vs : List Value} {ls : List (List Int)} {l : List Int}
theorem OwnRows.nil (t : TypeId) (w : World) (base : Nat) : OwnRows t w base [] [] := ⟨rfl, fun i hi => absurd hi (by simp)⟩
theorem OwnRows.size (h : OwnRows t w base vs ls) (hb : Below w.heap.size w w') : OwnRows t w' base vs ls := ⟨h.1, fun i hi => own_size (h.2 i hi) hb⟩
theorem OwnRows.push (h : OwnRows t w base vs ls) (hu : w.ownsRow base t 1 u l.length (l.map (Value.int .i64))) : OwnRows t w base (vs ++ [u]) (ls ++ [l]) := by
  refine ⟨by simp [h.1], fun i hi => ?_⟩
  rw [List.length_append, List.length_singleton] at hi
  rcases Nat.lt_or_ge i ls.length with h1 | h1
  · have e1 : (vs ++ [u]).getD i undef = vs.getD i undef := by
      rw [List.getD_eq_getElem?_getD, List.getElem?_append_left (by rw [h.1]; exact h1), ← List.getD_eq_getElem?_getD]
    have e2 : (ls ++ [l]).getD i [] = ls.getD i [] := by
      rw [List.getD_eq_getElem?_getD, List.getElem?_append_left h1, ← List.getD_eq_getElem?_getD]
    rw [e1, e2]; exact h.2 i h1
  · have hi' : i = ls.length := by omega
    have e1 : (vs ++ [u]).getD i undef = u := by
      rw [List.getD_eq_getElem?_getD, List.getElem?_append_right (by rw [h.1]; exact h1), h.1, hi']; simp
    have e2 : (ls ++ [l]).getD i [] = l := by
      rw [List.getD_eq_getElem?_getD, List.getElem?_append_right h1, hi']; simp
    rw [e1, e2]; exact hu
/-- They are kept while the outer row grows. -/
theorem OwnRows.grown {xs : List Value} (h : OwnRows t w base vs ls) (ho : w.ownsRow base' to 1 v n xs) (hne : to ≠ t) (hg : w.grownBy w' v.ownBlock) : OwnRows t w' base vs ls :=
  ⟨h.1, fun i hi => (own_apart ho (h.2 i hi) hne).kept hg (h.2 i hi)⟩
theorem OwnRows.alloc (h : OwnRows t w base vs ls) (o : Obj) : OwnRows t (w.alloc o) base vs ls := ⟨h.1, fun i hi => (h.2 i hi).alloc o⟩
theorem OwnRows.drew (h : OwnRows t w base vs ls) : OwnRows t w.drew base vs ls := h
theorem OwnRows.drewN (h : OwnRows t w base vs ls) (n : Nat) : OwnRows t (w.drewN n) base vs ls := h
/-- A cell of the outer row is set. -/
theorem OwnRows.setCell (h : OwnRows t w base vs ls) {p : Addr} (hp : ∀ i, i < ls.length → (vs.getD i undef).ownBlock ≠ some p.block) (x : Value) : OwnRows t (w.setCell p x) base vs ls :=
  ⟨h.1, fun i hi => ownsRow_setCell_other (h.2 i hi) (hp i hi) x⟩
theorem rows_of_own (h : OwnRows t w base vs ls) (ho : w.ownsRow base' to 1 v ls.length vs) (hn : ls.length ≤ 140737488351232) (hl : ∀ l ∈ ls, l.length ≤ 140737488351232 ∧ ∀ z ∈ l, (Lit.int .i64 z).wf = true) : IsRows w w.heap.size v ls := by
  have key : ∀ i, i < ls.length → IsInts .i64 w w.heap.size (vs.getD i undef) (ls.getD i []) := fun i hi => by
    have hm : ls.getD i [] ∈ ls := by
      rw [List.getD_eq_getElem?_getD, List.getElem?_eq_getElem hi]; exact List.getElem_mem hi
    exact own_ints (h.2 i hi) (hl _ hm).1 (hl _ hm).2
  rcases ho.2 with ⟨rfl, h0⟩ | ⟨g, cap, cur, rfl, _, _, hnc, hcm, _⟩
  · exact ⟨none, 0, vs, by rw [h0], by omega, by unfold maxLen; omega, hn, h.1, ⟨by have := ho.1; omega, fun hp => absurd hp (by omega)⟩, key⟩
  · exact ⟨_, cap, vs, rfl, hnc, hcm, hn, h.1, Reads.of_own ho, key⟩
end
/-- Rows and a code are returned. -/
def GivesRows (ls : List (List Int)) (c : Int) (w : World) (e : Ending) (w' : World) : Prop := ∃ v, e = .returned (.tuple #[v, .int .i64 c]) ∧ IsRows w' w'.heap.size v ls ∧ Below w.heap.size w w'
end Go.Dam
