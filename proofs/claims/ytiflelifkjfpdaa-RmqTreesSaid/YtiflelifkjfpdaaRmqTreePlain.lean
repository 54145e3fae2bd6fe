/-
  Plain laws of the tree of first greatest places: the spine kept on a stack gives the tree that is made part by part; no program in sight. Conditions: none.
-/
import Derived.Test.YtiflelifkjfpdaaRmqPlain
namespace Go.Dam
set_option linter.unusedVariables false
/-- The tree of the places from a on, below b: o tells each parent; that of the top is p. -/
inductive Tr (f o : Nat → Int) : Nat → Nat → Int → Prop
  | nil {a b : Nat} {p : Int} (h : b ≤ a) : Tr f o a b p
  | node {a b t : Nat} {p : Int} (h : TopOf f a b t) (ho : o t = p) (l : Tr f o a t t) (r : Tr f o (t + 1) b t) : Tr f o a b p
theorem Tr.uniq {f o o' : Nat → Int} {a b : Nat} {p : Int} (h : Tr f o a b p) : Tr f o' a b p → ∀ x, a ≤ x → x < b → o x = o' x := by
  induction h with
  | nil h => intro _ x h1 h2; omega
  | node h ho l r ihl ihr =>
    rename_i a b t p
    intro g x h1 h2
    cases g with
    | nil h => omega
    | node h' ho' l' r' =>
      rename_i t'
      have e := h.uniq h'
      subst e
      rcases Nat.lt_trichotomy x t with h3 | h3 | h3
      · exact ihl l' x h1 h3
      · rw [h3, ho, ho']
      · exact ihr r' x h3 h2
theorem Tr.congr {f o o' : Nat → Int} {a b : Nat} {p : Int} (h : Tr f o a b p) : (∀ x, a ≤ x → x < b → o' x = o x) → Tr f o' a b p := by
  induction h with
  | nil h => exact fun _ => .nil h
  | node h ho l r ihl ihr =>
    intro g
    have := h.lo; have := h.hi
    exact .node h ((g _ h.lo h.hi).trans ho) (ihl fun x h1 h2 => g x h1 (by omega)) (ihr fun x h1 h2 => g x (by omega) h2)
/-- Where what hangs above a stack begins (its last one first), and who is its parent. -/
def lowOf : List Nat → Nat
  | [] => 0
  | s :: _ => s + 1
def parOf : List Nat → Int
  | [] => -1
  | s :: _ => (s : Int)
theorem lowOf_nil : lowOf [] = 0 := rfl
theorem lowOf_cons (s : Nat) (r : List Nat) : lowOf (s :: r) = s + 1 := rfl
theorem parOf_nil : parOf [] = -1 := rfl
theorem parOf_cons (s : Nat) (r : List Nat) : parOf (s :: r) = (s : Int) := rfl
/-- The stack is the right spine of the tree of the places below i. -/
def Sp (f o : Nat → Int) (i : Nat) : List Nat → Prop
  | [] => True
  | s :: r => lowOf r ≤ s ∧ s < i ∧ o s = parOf r ∧ Tr f o (lowOf r) s s ∧ (∀ x, lowOf r ≤ x → x < s → f x < f s) ∧ (∀ x, s ≤ x → x < i → f x ≤ f s) ∧ Sp f o i r
theorem Sp.congr {f o o' : Nat → Int} {i : Nat} : ∀ {st : List Nat}, Sp f o i st → (∀ x, x < lowOf st → o' x = o x) → Sp f o' i st
  | [], _, _ => trivial
  | s :: r, ⟨h1, h2, h3, h4, h5, h6, h7⟩, g => by
    rw [lowOf_cons] at g
    exact ⟨h1, h2, (g s (by omega)).trans h3, h4.congr fun x _ hx => g x (by omega), h5, h6, h7.congr fun x hx => g x (by omega)⟩
theorem Sp.lt {f o : Nat → Int} {i : Nat} : ∀ {st : List Nat}, Sp f o i st → ∀ s ∈ st, s < lowOf st ∧ s < i
  | [], _, s, hs => by simp at hs
  | t :: r, ⟨h1, h2, h3, h4, h5, h6, h7⟩, s, hs => by
    rw [lowOf_cons]
    rcases List.mem_cons.1 hs with rfl | hs
    · exact ⟨by omega, h2⟩
    · have := h7.lt s hs; omega
/-- A next place, not above any of the stack. -/
theorem Sp.more {f o : Nat → Int} {i : Nat} : ∀ {st : List Nat}, Sp f o i st → (∀ s, st.head? = some s → f i ≤ f s) → Sp f o (i + 1) st
  | [], _, _ => trivial
  | s :: r, ⟨h1, h2, h3, h4, h5, h6, h7⟩, g => by
    have hs : f i ≤ f s := g s rfl
    refine ⟨h1, by omega, h3, h4, h5, fun x hx hx' => ?_, h7.more fun t ht => ?_⟩
    · rcases Nat.lt_or_ge x i with h8 | h8
      · exact h6 x hx h8
      · rw [show x = i from by omega]; exact hs
    · cases r with
      | nil => simp at ht
      | cons u r' =>
        obtain rfl : u = t := by simpa using ht
        rw [lowOf_cons] at h1
        have := h7.2.2.2.2.2.1 s (by omega) h2
        omega
/-- What hangs above the stack: nothing, or a tree whose top is 'last'. -/
def Hang (f o : Nat → Int) (i : Nat) (st : List Nat) (last : Int) : Prop :=
  (last = -1 ∧ lowOf st = i) ∨ ∃ s : Nat, last = s ∧ TopOf f (lowOf st) i s ∧ o s = parOf st ∧ Tr f o (lowOf st) s s ∧ Tr f o (s + 1) i s
theorem Hang.tree {f o : Nat → Int} {i : Nat} {st : List Nat} {last : Int} (h : Hang f o i st last) : Tr f o (lowOf st) i (parOf st) := by
  rcases h with ⟨_, h⟩ | ⟨s, rfl, h1, h2, h3, h4⟩
  · exact .nil (by omega)
  · exact .node h1 h2 h3 h4
theorem Hang.start {f o : Nat → Int} {i : Nat} {st : List Nat} (h : lowOf st = i) : Hang f o i st (-1) := .inl ⟨rfl, h⟩
/-- The last one of the stack is taken off. -/
theorem Hang.pop {f o : Nat → Int} {i s : Nat} {r : List Nat} {last : Int} (h : Hang f o i (s :: r) last) (g : Sp f o i (s :: r)) : Hang f o i r s := by
  obtain ⟨h1, h2, h3, h4, h5, h6, h7⟩ := g
  exact .inr ⟨s, rfl, ⟨h1, h2, fun x hx hx' => by
    rcases Nat.lt_or_ge x s with h8 | h8
    · have := h5 x hx h8; omega
    · exact h6 x h8 hx', h5⟩, h3, h4, h.tree⟩
theorem Hang.all {f o : Nat → Int} {i : Nat} : ∀ {st : List Nat} {last : Int}, Hang f o i st last → Sp f o i st → Tr f o 0 i (-1)
  | [], last, h, _ => h.tree
  | s :: r, last, h, g => (h.pop g).all g.2.2.2.2.2.2
theorem Hang.bd {f o : Nat → Int} {i : Nat} {st : List Nat} {last : Int} (h : Hang f o i st last) : -1 ≤ last ∧ last < i := by
  rcases h with ⟨rfl, h⟩ | ⟨s, rfl, h1, _⟩
  · omega
  · have := h1.hi; omega
/-- Place i gets its parent, and becomes that of what hangs. -/
theorem Hang.push {f o o' : Nat → Int} {i : Nat} {st : List Nat} {last : Int} (h : Hang f o i st last) (g : Sp f o i st) (hlt : ∀ x, lowOf st ≤ x → x < i → f x < f i) (hge : ∀ s, st.head? = some s → f i ≤ f s)
    (hle : lowOf st ≤ i) (e1 : o' i = parOf st) (e2 : 0 ≤ last → o' last.toNat = i) (e3 : ∀ x, x < i → (x : Int) ≠ last → o' x = o x) : Sp f o' (i + 1) (i :: st) ∧ Hang f o' (i + 1) (i :: st) (-1) := by
  have hnl : ∀ x, x < lowOf st → (x : Int) ≠ last := by
    rcases h with ⟨rfl, h⟩ | ⟨s, rfl, h1, _⟩
    · intro x hx; omega
    · intro x hx; have := h1.lo; omega
  have h0 : Sp f o' (i + 1) st := (g.more hge).congr fun x hx => e3 x (by omega) (hnl x hx)
  refine ⟨⟨hle, by omega, e1, ?_, hlt, fun x h1 h2 => by rw [show x = i from by omega]; exact Int.le_refl _, h0⟩, .start rfl⟩
  rcases h with ⟨rfl, h⟩ | ⟨s, rfl, h1, h2, h3, h4⟩
  · exact .nil (by omega)
  · have := h1.hi
    have := h1.lo
    refine .node h1 (by simpa using e2 (by omega)) (h3.congr fun x hx hx' => e3 x (by omega) (by omega)) (h4.congr fun x hx hx' => e3 x (by omega) (by omega))
theorem Hang.lows {f o : Nat → Int} {i : Nat} {st : List Nat} {last : Int} (h : Hang f o i st last) : lowOf st ≤ i := by
  rcases h with ⟨rfl, h⟩ | ⟨s, rfl, h1, _⟩
  · omega
  · have := h1.hi; have := h1.lo; omega
/-- All that hangs is below the new one. -/
theorem below_pop {f o : Nat → Int} {i s : Nat} {r : List Nat} (g : Sp f o i (s :: r)) (hs : f s < f i) (h : ∀ x, lowOf (s :: r) ≤ x → x < i → f x < f i) : ∀ x, lowOf r ≤ x → x < i → f x < f i := by
  intro x h1 h2
  rcases Nat.lt_or_ge x s with h3 | h3
  · have := g.2.2.2.2.1 x h1 h3; omega
  · have := g.2.2.2.2.2.1 x h3 h2; omega
theorem Sp_nil (f o : Nat → Int) (i : Nat) : Sp f o i [] := trivial
theorem Sp.tail {f o : Nat → Int} {i s : Nat} {r : List Nat} (h : Sp f o i (s :: r)) : Sp f o i r := h.2.2.2.2.2.2
theorem Sp.head_lt {f o : Nat → Int} {i s : Nat} {r : List Nat} (h : Sp f o i (s :: r)) : s < i := h.2.1
theorem Sp.len {f o : Nat → Int} {i : Nat} : ∀ {st : List Nat}, Sp f o i st → st.length ≤ lowOf st
  | [], _ => Nat.le_refl _
  | s :: r, ⟨h1, _, _, _, _, _, h7⟩ => by
    have := h7.len
    rw [lowOf_cons, List.length_cons]; omega
attribute [irreducible] lowOf parOf Sp Hang
end Go.Dam
