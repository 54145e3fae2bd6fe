/-
  Texts of one claim behind each other. Conditions: none of its own.
-/
import Derived.Test.YtlojecajonhmhaaGreatDoorMQueryEvals05
import Derived.Test.YtlojecajonhmhaaGreatDoorMQueryEvals00
set_option linter.unusedVariables false
set_option linter.unusedSimpArgs false
/-
  A block made by the call as a row of the call's own, and the outer row of a slice of slices while it is filled. Conditions: none; nothing here names the program.
-/
namespace Go.Dam
open Go Go.RowKit
set_option linter.unusedVariables false
theorem own_of_blk {w : World} {g base : Nat} {t : TypeId} {cs : List Value} {n : Nat} (h : Blk w g t cs.toArray) (hb : base ≤ g) (hn : cs.length = n) (hl : n ≤ 140737488351232) : w.ownsRow base t 1 (.slice (some ⟨g, 0, none⟩) n n) n cs := by
  subst hn
  exact ⟨by omega, .inr ⟨g, cs.length, cs.toArray, rfl, hb, h, Nat.le_refl _, by unfold maxLen; omega, by simp, by simp⟩⟩
theorem own_of_iblk {w : World} {g base : Nat} {t : TypeId} {l : List Int} {n : Nat} (h : IBlk .i64 t w g l) (hb : base ≤ g) (hn : l.length = n) (hl : n ≤ 140737488351232) : w.ownsRow base t 1 (.slice (some ⟨g, 0, none⟩) n n) n (l.map (Value.int .i64)) :=
  own_of_blk h hb (by rw [List.length_map]; exact hn) hl
theorem of_not_false {b : Bool} (h : (!b) = false) : b = true := by cases b <;> simp_all
/-- A row of n zeros, under a name of its own (a written-out row of 64 cells is a burden to each step). -/
def zerosV (n : Nat) : Array Value := (List.replicate n (Value.int .i64 0)).toArray
theorem zerosV_eq (n : Nat) : (List.replicate n (Value.int .i64 0)).toArray = zerosV n := rfl
attribute [irreducible] zerosV
theorem IBlk.zerosV_at (t : TypeId) (w : World) (n g : Nat) (hg : g = w.heap.size) : IBlk .i64 t (w.alloc (.cells (zerosV n) t)) g (List.replicate n 0) := by rw [← zerosV_eq]; exact IBlk.zeros_at w n g hg
theorem ne_blk {g g' i i' : Nat} (h : g ≠ g') : (⟨g, i, none⟩ : Addr) ≠ ⟨g', i', none⟩ := fun e => h (by injection e)
theorem new_cell {w : World} {g : Nat} {u : Value} {t : TypeId} (hg : g = w.heap.size) : (w.alloc (.cells #[u] t)).cell? ⟨g, 0, none⟩ = some u := by subst hg; simp
theorem own_cap {w : World} {base : Nat} {e : TypeId} {size n c : Nat} {A : Option Addr} {xs : List Value} (h : w.ownsRow base e size (.slice A n c) n xs) : n ≤ c := by
  rcases h.2 with ⟨h1, h2⟩ | ⟨g, cap, cur, h1, _, _, h2, _⟩
  · omega
  · injection h1 with _ _ h1; omega
/-- The outer row while it is filled: n are still nil. -/
def outerV (vs : List Value) (n : Nat) : Array Value := (vs ++ List.replicate n (Value.slice none 0 0)).toArray
theorem outerV_set {vs : List Value} {n r : Nat} (h : vs.length = r) (x : Value) : (outerV vs (n + 1)).setIfInBounds r x = outerV (vs ++ [x]) n := by
  subst h
  unfold outerV
  simp [List.replicate_succ, List.set_append]
theorem outerV_start (n : Nat) : (List.replicate n (Value.slice none 0 0)).toArray = outerV [] n := by simp [outerV]
theorem outerV_end (vs : List Value) : outerV vs 0 = vs.toArray := by simp [outerV]
theorem outerV_at {vs : List Value} {n r : Nat} {x : Value} (h : vs.length = r) : (outerV (vs ++ [x]) n)[r]? = some x := by
  subst h
  simp [outerV]
theorem outerV_old {vs : List Value} {n r : Nat} (h : vs.length = r) : (outerV vs (n + 1))[r]? = some (.slice none 0 0) := by
  subst h
  simp [outerV, List.replicate_succ]
attribute [irreducible] outerV
theorem OwnRows.iblk {t : TypeId} {w : World} {base g n : Nat} {vs : List Value} {ls : List (List Int)} {l : List Int} (h : OwnRows t w base vs ls) (hb : IBlk .i64 t w g l) (hg : base ≤ g) (hn : l.length = n) (hl : n ≤ 140737488351232) : OwnRows t w base (vs ++ [.slice (some ⟨g, 0, none⟩) n n]) (ls ++ [l]) := by
  refine h.push ?_
  rw [hn]; exact own_of_iblk hb hg hn hl
/-- A cell of another block is set. -/
theorem OwnRows.far {t to : TypeId} {w : World} {base : Nat} {vs : List Value} {ls : List (List Int)} {cs : Array Value} {p : Addr} (h : OwnRows t w base vs ls) (hp : Blk w p.block to cs) (hne : t ≠ to) (x : Value) : OwnRows t (w.setCell p x) base vs ls := by
  refine h.setCell (fun i hi e => ?_) x
  rcases (h.2 i hi).2 with ⟨h1, _⟩ | ⟨g, cap, cur, h1, _, h2, _⟩
  · rw [h1] at e; cases e
  · rw [h1] at e
    simp only [Value.ownBlock, Option.some.injEq] at e
    unfold Blk at hp
    rw [← e, h2] at hp
    injection hp with hp
    injection hp with _ ht
    exact hne ht
/-- A cell of a new block is set. -/
theorem OwnRows.farNew {t : TypeId} {w w0 : World} {base : Nat} {vs : List Value} {ls : List (List Int)} {p : Addr} (h0 : OwnRows t w0 base vs ls) (h : OwnRows t w base vs ls) (hp : w0.heap.size ≤ p.block) (x : Value) : OwnRows t (w.setCell p x) base vs ls := by
  refine h.setCell (fun i hi e => ?_) x
  have := ((h0.2 i hi).lt p.block e).2
  omega
end Go.Dam

/-
  Rows of the call's own that lie apart from each other: one of them grows, a new one comes. Conditions: none; nothing here names the program.
-/
namespace Go.Dam
open Go Go.RowKit
set_option linter.unusedVariables false
/-- Rows of the call's own that lie apart. -/
def OwnPiles (t : TypeId) (w : World) (base : Nat) (vs : List Value) (ls : List (List Int)) : Prop :=
  OwnRows t w base vs ls ∧ ∀ i j, i < ls.length → j < ls.length → i ≠ j → Apart (vs.getD i undef) (vs.getD j undef)
section
variable {t to : TypeId} {w w' : World} {base base' n : Nat} {v u : Value} {vs : List Value} {ls : List (List Int)} {l : List Int}
theorem OwnPiles.nil (t : TypeId) (w : World) (base : Nat) : OwnPiles t w base [] [] := ⟨OwnRows.nil t w base, fun i j h => absurd h (by simp)⟩
theorem OwnPiles.drewN (h : OwnPiles t w base vs ls) (n : Nat) : OwnPiles t (w.drewN n) base vs ls := h
theorem OwnPiles.drew (h : OwnPiles t w base vs ls) : OwnPiles t w.drew base vs ls := h
theorem OwnPiles.alloc (h : OwnPiles t w base vs ls) (o : Obj) : OwnPiles t (w.alloc o) base vs ls := ⟨h.1.alloc o, h.2⟩
theorem OwnPiles.setCell (h : OwnPiles t w base vs ls) {p : Addr} (hp : ∀ i, i < ls.length → (vs.getD i undef).ownBlock ≠ some p.block) (x : Value) : OwnPiles t (w.setCell p x) base vs ls := ⟨h.1.setCell hp x, h.2⟩
theorem OwnPiles.far {p : Addr} (h : OwnPiles t w base vs ls) (hp : p.block < base) (x : Value) : OwnPiles t (w.setCell p x) base vs ls :=
  h.setCell (fun i hi e => by have := ((h.1.2 i hi).lt p.block e).1; omega) x
theorem OwnPiles.grownOther {xs : List Value} (h : OwnPiles t w base vs ls) (ho : w.ownsRow base' to 1 v n xs) (hne : to ≠ t) (hg : w.grownBy w' v.ownBlock) : OwnPiles t w' base vs ls := ⟨h.1.grown ho hne hg, h.2⟩
/-- A cell of the outer row is set. -/
theorem OwnPiles.outer {xs : List Value} (h : OwnPiles t w base vs ls) {g c : Nat} (ho : w.ownsRow base' to 1 (.slice (some ⟨g, 0, none⟩) n c) n xs) (hne : to ≠ t) (i : Nat) (x : Value) : OwnPiles t (w.setCell ⟨g, i, none⟩ x) base vs ls :=
  h.setCell (fun j hj e => own_apart ho (h.1.2 j hj) hne g rfl e) x
/-- A new row, of no elements. -/
theorem OwnPiles.pushNil (h : OwnPiles t w base vs ls) : OwnPiles t w base (vs ++ [.slice none 0 0]) (ls ++ [[]]) := by
  have h1 := h.1.push (u := .slice none 0 0) (l := []) (World.ownsRow_nil _ _ _ _)
  have hl := h.1.1
  refine ⟨h1, fun i j hi hj hne => ?_⟩
  rw [List.length_append, List.length_singleton] at hi hj
  rcases Nat.lt_or_ge i ls.length with a | a
  · rcases Nat.lt_or_ge j ls.length with b | b
    · rw [getD_snoc_old (by omega), getD_snoc_old (by omega)]; exact h.2 i j a b hne
    · rw [show j = vs.length from by omega, getD_snoc_new]; exact Apart.nil' _
  · rw [show i = vs.length from by omega, getD_snoc_new]; exact Apart.nil _
/-- Row k has grown. -/
theorem OwnPiles.grow {k : Nat} {m : List Int} (h : OwnPiles t w base vs ls) (hk : k < ls.length) (hg : w.grownBy w' (vs.getD k undef).ownBlock) (hl : LiesOr w.heap.size (vs.getD k undef) v) (hv : w'.ownsRow base t 1 v m.length (m.map (Value.int .i64))) : OwnPiles t w' base (vs.set k v) (ls.set k m) := by
  have hlen := h.1.1
  refine ⟨⟨by simp [hlen], fun i hi => ?_⟩, fun i j hi hj hne => ?_⟩
  · rw [List.length_set] at hi
    by_cases hik : k = i
    · subst hik
      rw [getD_put_same (by omega), getD_put_same hi]; exact hv
    · rw [getD_put_ne hik, getD_put_ne hik]
      exact (h.2 k i hk hi hik).kept hg (h.1.2 i hi)
  · rw [List.length_set] at hi hj
    by_cases hik : k = i
    · subst hik
      rw [getD_put_same (by omega), getD_put_ne hne]
      exact (h.2 k j hk hj hne).grow hl (h.1.2 j hj)
    · by_cases hjk : k = j
      · subst hjk
        rw [getD_put_same (by omega), getD_put_ne hik]
        exact ((h.2 k i hk hi hik).grow hl (h.1.2 i hi)).symm
      · rw [getD_put_ne hik, getD_put_ne hjk]; exact h.2 i j hi hj hne
end
/-- Places as ints. -/
def toInts (p : List Nat) : List Int := p.map fun k : Nat => (k : Int)
theorem toInts_length (p : List Nat) : (toInts p).length = p.length := by simp [toInts]
theorem toInts_at {p : List Nat} {i : Nat} (h : i < p.length) : (toInts p).getD i 0 = ((p.getD i 0 : Nat) : Int) := by simp [toInts, h]
theorem toInts_snoc (p : List Nat) (i : Nat) : toInts (p ++ [i]) = toInts p ++ [(i : Int)] := by simp [toInts]
theorem toInts_nil : toInts [] = [] := rfl
def toRows (ps : List (List Nat)) : List (List Int) := ps.map toInts
theorem toRows_length (ps : List (List Nat)) : (toRows ps).length = ps.length := by simp [toRows]
theorem toRows_at (ps : List (List Nat)) (k : Nat) : (toRows ps).getD k [] = toInts (ps.getD k []) := by
  rcases Nat.lt_or_ge k ps.length with h | h
  · simp [toRows, h]
  · rw [List.getD_eq_getElem?_getD, List.getElem?_eq_none (by simpa [toRows] using h), List.getD_eq_getElem?_getD, List.getElem?_eq_none h]; rfl
theorem toRows_set (ps : List (List Nat)) (k : Nat) (p : List Nat) : (toRows ps).set k (toInts p) = toRows (ps.set k p) := by simp [toRows, List.map_set]
theorem toRows_snoc (ps : List (List Nat)) : toRows (ps ++ [[]]) = toRows ps ++ [[]] := by simp [toRows, toInts]
theorem toRows_nil : toRows [] = [] := rfl
/-- A strictly ascending list of numbers below i is not longer than i. -/
theorem asc_len : ∀ (n : Nat) (p : List Nat) (i : Nat), p.length = n → p.Pairwise (fun a b => a < b) → (∀ j ∈ p, j < i) → n ≤ i
  | 0, _, _, _, _, _ => Nat.zero_le _
  | n + 1, p, i, hl, hp, hm => by
    rcases List.eq_nil_or_concat p with rfl | ⟨q, x, rfl⟩
    · simp at hl
    · rw [List.concat_eq_append] at hl hp hm
      rw [List.pairwise_append] at hp
      have h1 := asc_len n q x (by simpa using hl) hp.1 fun j hj => hp.2.2 j hj x (by simp)
      have h2 := hm x (by simp)
      omega
theorem Piles.len_le {f : Nat → Int} {i : Nat} {ps : List (List Nat)} (h : Piles f i ps) {k : Nat} (hk : k < ps.length) : (ps.getD k []).length ≤ i :=
  asc_len _ _ i rfl ((h.asc k hk).imp fun h => h.1) fun j hj => ((h.mem k hk j).1 hj).1
/-- The last place of a pile, in memory. -/
theorem piles_top {t : TypeId} {w : World} {base : Nat} {vs : List Value} {f : Nat → Int} {i : Nat} {ps : List (List Nat)} (h : OwnPiles t w base vs (toRows ps)) (g : Piles f i ps) {k : Nat} (hk : k < ps.length) :
    ∃ gr n cr, vs.getD k undef = .slice (some ⟨gr, 0, none⟩) (n + 1) cr ∧ n + 1 = (ps.getD k []).length ∧ w.cell? ⟨gr, n, none⟩ = some (.int .i64 ((topP (ps.getD k []) : Nat) : Int)) ∧ gr < w.heap.size ∧ base ≤ gr := by
  have h1 := h.1.2 k (by rw [toRows_length]; exact hk)
  rw [toRows_at] at h1
  have hne := g.ne k hk
  have ht := topP_at hne
  have hpos : 0 < (ps.getD k []).length := List.length_pos_iff.2 hne
  generalize ps.getD k [] = p at *
  rw [toInts_length] at h1
  obtain ⟨gr, cap, hv, hb, hlt⟩ := h1.form hpos
  refine ⟨gr, p.length - 1, cap, by rw [hv]; congr 1; omega, by omega, ?_, hlt, hb⟩
  rw [hv] at h1
  rw [h1.cellAt (p.length - 1) (by omega)]
  have h2 : p.length - 1 < (toInts p).length := by rw [toInts_length]; omega
  rw [← ht, ← toInts_at (by omega)]
  simp [h2]
/-- The lengths while they are found. -/
def lensHalf (f : Nat → Int) (i n : Nat) : List Int := toInts (lensTo f i) ++ List.replicate (n - i) 0
theorem lensHalf_0 (f : Nat → Int) (n : Nat) : lensHalf f 0 n = List.replicate n 0 := by simp [lensHalf, lensTo_0, toInts]
theorem lensHalf_length {f : Nat → Int} {i n : Nat} (h : i ≤ n) : (lensHalf f i n).length = n := by simp [lensHalf, toInts_length, lensTo_length]; omega
theorem lensHalf_set {f : Nat → Int} {i n : Nat} (h : i < n) {x : Int} (hx : x = (((lensTo f (i + 1)).getD i 0 : Nat) : Int)) : (lensHalf f i n).set i x = lensHalf f (i + 1) n := by
  subst hx
  obtain ⟨m, hm⟩ : ∃ m, n - i = m + 1 := ⟨n - i - 1, by omega⟩
  rw [lensTo_new]
  rw [lensHalf, lensHalf, lensTo_succ, toInts_snoc, hm, show n - (i + 1) = m from by omega, List.replicate_succ, List.set_append_right _ _ (by rw [toInts_length, lensTo_length]; exact Nat.le_refl _), toInts_length, lensTo_length, Nat.sub_self]
  simp
theorem lensHalf_end (f : Nat → Int) (n : Nat) : lensHalf f n n = toInts (lensTo f n) := by simp [lensHalf]
theorem lens_wf {f : Nat → Int} {n : Nat} (hn : n ≤ 1000) : ∀ z ∈ toInts (lensTo f n), (Lit.int .i64 z).wf = true := by
  intro z hz
  simp only [toInts, List.mem_map] at hz
  obtain ⟨a, ha, rfl⟩ := hz
  obtain ⟨i, hi, rfl⟩ := List.mem_iff_getElem.1 ha
  have h1 : i < n := by rw [lensTo_length] at hi; exact hi
  have := (lensTo_le (f := f) h1).2
  have e : (lensTo f n).getD i 0 = (lensTo f n)[i] := by simp [hi]
  exact int_wf (by unfold I64; omega)
attribute [irreducible] toInts toRows lensHalf
end Go.Dam

/-
  Plain laws of orders: when a list holds each number below its length once; a test place by place, and a test of the sorted list. Conditions: none; no program in sight.
-/
namespace Go.Dam
set_option linter.unusedVariables false
/-- The list holds the order p. -/
def IsOrder (l : List Int) (p : List Nat) : Prop := l = toInts p ∧ p.Nodup ∧ ∀ k ∈ p, k < p.length
/-- What is wrong with a list as an order. -/
def PermF (l : List Int) (c : Int) : Prop := (300 < l.length ∧ c = 1) ∨ (l.length ≤ 300 ∧ (∃ p, IsOrder l p) ∧ c = 0) ∨ (l.length ≤ 300 ∧ (¬ ∃ p, IsOrder l p) ∧ c = 4)
theorem PermF.ex (l : List Int) : ∃ c, PermF l c := by
  by_cases h : 300 < l.length
  · exact ⟨1, .inl ⟨h, rfl⟩⟩
  · by_cases h2 : ∃ p, IsOrder l p
    · exact ⟨0, .inr (.inl ⟨by omega, h2, rfl⟩)⟩
    · exact ⟨4, .inr (.inr ⟨by omega, h2, rfl⟩)⟩
theorem toInts_eq (p : List Nat) : toInts p = p.map (fun k : Nat => (k : Int)) := by unfold toInts; rfl
theorem toInts_inj {p q : List Nat} (h : toInts p = toInts q) : p = q := by
  rw [toInts_eq, toInts_eq] at h
  exact (List.map_inj_right fun a b e => Int.ofNat.inj e).1 h
theorem toInts_take (p : List Nat) (i : Nat) : (toInts p).take i = toInts (p.take i) := by rw [toInts_eq, toInts_eq, List.map_take]
theorem order_len {l : List Int} {p : List Nat} (h : IsOrder l p) : p.length = l.length := by rw [h.1, toInts_length]
theorem IsOrder.unique {l : List Int} {p q : List Nat} (h : IsOrder l p) (g : IsOrder l q) : p = q := toInts_inj (h.1.symm.trans g.1)
theorem nodup_at {p : List Nat} (h : p.Nodup) {i : Nat} (hi : i < p.length) : p[i] ∉ p.take i := by
  intro hm
  obtain ⟨j, hj, e⟩ := List.mem_iff_getElem.1 hm
  rw [List.length_take] at hj
  rw [List.getElem_take] at e
  have := (List.pairwise_iff_getElem.1 h) j i (by omega) hi (by omega)
  exact this e
/-- The part that has been looked at is fine. -/
def Half (l : List Int) (i : Nat) (p : List Nat) : Prop := l.take i = toInts p ∧ p.Nodup ∧ ∀ k ∈ p, k < l.length
theorem Half.zero (l : List Int) : Half l 0 [] := ⟨by rw [toInts_eq]; simp, List.nodup_nil, fun k h => by cases h⟩
theorem Half.len {l : List Int} {i : Nat} {p : List Nat} (h : Half l i p) (hi : i ≤ l.length) : p.length = i := by
  have := congrArg List.length h.1
  rw [toInts_length, List.length_take] at this; omega
theorem Half.step {l : List Int} {i k : Nat} {p : List Nat} (h : Half l i p) (hi : i < l.length) (hz : l.getD i 0 = (k : Int)) (hk : k < l.length) (hn : k ∉ p) : Half l (i + 1) (p ++ [k]) := by
  refine ⟨?_, ?_, fun x hx => ?_⟩
  · rw [List.take_add_one, h.1, toInts_snoc]
    congr 1
    rw [List.getD_eq_getElem?_getD, List.getElem?_eq_getElem hi, Option.getD_some] at hz
    rw [List.getElem?_eq_getElem hi, hz]; rfl
  · rw [List.nodup_append]
    exact ⟨h.2.1, by simp, fun a ha b hb e => by simp at hb; subst hb; subst e; exact hn ha⟩
  · rcases List.mem_append.1 hx with h1 | h1
    · exact h.2.2 x h1
    · simp at h1; omega
theorem Half.whole {l : List Int} {p : List Nat} (h : Half l l.length p) : IsOrder l p := by
  have hl := h.len (Nat.le_refl _)
  refine ⟨by rw [← h.1, List.take_length], h.2.1, fun k hk => by rw [hl]; exact h.2.2 k hk⟩
theorem Half.no {l : List Int} {i : Nat} {p : List Nat} (h : Half l i p) (hi : i < l.length) (hz : l.getD i 0 < 0 ∨ (l.length : Int) ≤ l.getD i 0 ∨ (l.getD i 0).toNat ∈ p) : ¬ ∃ q, IsOrder l q := by
  rintro ⟨q, hq⟩
  have hl := order_len hq
  have hqi : i < q.length := by omega
  have e1 : p = q.take i := by
    apply toInts_inj
    rw [← h.1, hq.1, toInts_take]
  have e2 : l.getD i 0 = ((q[i] : Nat) : Int) := by
    rw [hq.1, toInts_at hqi]; simp [hqi]
  have hm : q[i] ∈ q := List.getElem_mem hqi
  have h3 := hq.2.2 _ hm
  rw [e2] at hz
  rcases hz with h1 | h1 | h1
  · omega
  · omega
  · rw [Int.toNat_natCast, e1] at h1
    exact nodup_at hq.2.1 hqi h1
theorem nodup_le : ∀ (n : Nat) (p : List Nat), p.Nodup → (∀ k ∈ p, k < n) → p.length ≤ n ∧ (p.length = n → p.Perm (List.range n))
  | 0, p, _, h => by
    cases p with
    | nil => simp
    | cons a p => exact absurd (h a (by simp)) (by omega)
  | n + 1, p, hd, h => by
    by_cases hm : n ∈ p
    · have h1 := nodup_le n (p.erase n) (hd.erase n) fun k hk => by
        have h2 := (hd.mem_erase_iff).1 hk
        have := h k h2.2
        have h4 := h2.1
        omega
      have h2 := List.length_erase_of_mem hm
      have h3 : 0 < p.length := List.length_pos_of_mem hm
      refine ⟨by omega, fun e => ?_⟩
      have h4 := h1.2 (by omega)
      have h5 := List.perm_cons_erase hm
      rw [List.range_succ]
      exact h5.trans ((h4.cons n).trans (List.perm_append_singleton n _).symm)
    · have h1 := nodup_le n p hd fun k hk => by
        have := h k hk
        have : k ≠ n := fun e => hm (e ▸ hk)
        omega
      exact ⟨by omega, fun e => by omega⟩
theorem IsOrder.perm {l : List Int} {p : List Nat} (h : IsOrder l p) : p.Perm (List.range p.length) := (nodup_le p.length p h.2.1 h.2.2).2 rfl
/-- Sorted as Go sorts. -/
def sortI (l : List Int) : List Int := l.mergeSort fun x y => decide (x ≤ y)
theorem sortI_eq (l : List Int) : (l.mergeSort fun x y => decide (x ≤ y)) = sortI l := rfl
theorem sortI_perm (l : List Int) : (sortI l).Perm l := List.mergeSort_perm l _
theorem sortI_len (l : List Int) : (sortI l).length = l.length := (sortI_perm l).length_eq
theorem sortI_sorted (l : List Int) : (sortI l).Pairwise fun a b => a ≤ b := by
  have := List.pairwise_mergeSort (le := fun x y : Int => decide (x ≤ y)) (fun a b c h1 h2 => by simp at *; omega) (fun a b => by simp; omega) l
  exact this.imp fun h => by simpa using h
theorem sortI_unique {l m : List Int} (h : l.Perm m) (hs : m.Pairwise fun a b => a ≤ b) : sortI l = m :=
  ((sortI_perm l).trans h).eq_of_pairwise (fun a b _ _ h1 h2 => Int.le_antisymm h1 h2) (sortI_sorted l) hs
theorem range_asc (n : Nat) : (toInts (List.range n)).Pairwise fun a b => a ≤ b := by
  rw [toInts_eq, List.pairwise_map]
  exact List.pairwise_lt_range.imp fun h => by omega
theorem order_sorted {l : List Int} {p : List Nat} (h : IsOrder l p) : sortI l = toInts (List.range l.length) := by
  apply sortI_unique _ (range_asc _)
  have h1 := h.perm
  have hl := order_len h
  rw [hl] at h1
  have h2 := h1.map (fun k : Nat => (k : Int))
  rw [← toInts_eq, ← toInts_eq, ← h.1] at h2
  exact h2
theorem sorted_order {l : List Int} (h : ∀ j, j < l.length → (sortI l).getD j 0 = (j : Int)) : ∃ p, IsOrder l p := by
  have hs : sortI l = toInts (List.range l.length) := by
    apply List.ext_getElem
    · rw [sortI_len, toInts_length, List.length_range]
    · intro j h1 h2
      have h3 := h j (by rw [← sortI_len]; exact h1)
      have h4 := toInts_at (p := List.range l.length) (i := j) (by rw [toInts_length] at h2; exact h2)
      rw [List.getD_eq_getElem?_getD, List.getElem?_eq_getElem h1] at h3
      rw [List.getD_eq_getElem?_getD, List.getElem?_eq_getElem h2] at h4
      simp only [Option.getD_some] at h3 h4
      rw [h3, h4]
      rw [toInts_length, List.length_range] at h2
      simp [h2]
  have hp : (toInts (List.range l.length)).Perm l := hs ▸ sortI_perm l
  have hmem : ∀ z ∈ l, ∃ k : Nat, k < l.length ∧ z = (k : Int) := fun z hz => by
    have := hp.mem_iff.2 hz
    rw [toInts_eq] at this
    obtain ⟨k, hk, rfl⟩ := List.mem_map.1 this
    exact ⟨k, List.mem_range.1 hk, rfl⟩
  have hl : l = toInts (l.map Int.toNat) := by
    rw [toInts_eq, List.map_map]
    conv => lhs; rw [← List.map_id l]
    apply List.map_congr_left
    intro z hz
    obtain ⟨k, _, rfl⟩ := hmem z hz
    simp
  refine ⟨l.map Int.toNat, hl, ?_, fun k hk => ?_⟩
  · have h1 : (toInts (List.range l.length)).Nodup := by
      rw [toInts_eq]
      exact (List.pairwise_map).2 (List.nodup_range.imp fun h e => h (Int.ofNat.inj e))
    have h2 : l.Nodup := hp.nodup_iff.1 h1
    rw [hl, toInts_eq] at h2
    exact ((List.pairwise_map).1 h2).imp fun h e => h (by rw [e])
  · obtain ⟨z, hz, rfl⟩ := List.mem_map.1 hk
    obtain ⟨k2, hk2, rfl⟩ := hmem z hz
    rw [List.length_map, Int.toNat_natCast]; exact hk2
theorem not_order {l : List Int} {j : Nat} (hj : j < l.length) (h : (sortI l).getD j 0 ≠ (j : Int)) : ¬ ∃ p, IsOrder l p := by
  rintro ⟨p, hp⟩
  apply h
  rw [order_sorted hp, toInts_at (by rw [List.length_range]; exact hj)]
  simp [hj]
attribute [irreducible] sortI
end Go.Dam
