/-
  Texts of one claim behind each other. Conditions: none of its own.
-/
import Derived.IntWalk
import Derived.WalkKit
import Derived.ProofKit
import Derived.OpenShut
import Derived.ShutString
import Derived.ChangeOld
import Derived.Below
import Derived.Laws.OwnMore
import Derived.Deep.AppendLies
import Derived.Deep.Draws
import Derived.Laws.Rows
import Derived.Deep.Slices
import Derived.Deep.Fields
import Derived.Lib.SmallJoins
import Derived.Lib.Hide
import Derived.SizedLaws
import Derived.Laws.BitsAllLaws
import Derived.Laws.BitsLemmas
import Derived.Deep.RegionLaw
set_option linter.unusedVariables false
set_option linter.unusedSimpArgs false
/-
  The plain law of the convex hull, no program in sight: the chain of left turns over sorted places, done upward and downward, has every point to the left of each of its edges; and what walks from a corner to the next one meets just these corners. Conditions: coordinates whose second is within 2^20 either way.
-/
namespace Go.Dam.Hull
set_option linter.unusedVariables false
abbrev Pt := Int × Int
def trn (a b c : Pt) : Int := (b.1 - a.1) * (c.2 - a.2) - (b.2 - a.2) * (c.1 - a.1)
/-- What the chain needs of turns: a height l of the places, and four laws of three vectors. -/
structure Geo (l : Nat → Int) (T : Nat → Nat → Nat → Int) : Prop where
  a1 : ∀ s u i p, (l i - l u) * T s i p = (l i - l s) * T u i p - (l i - l p) * T s u i
  a2 : ∀ s u i p, (l u - l s) * T s i p = (l i - l s) * T s u p - (l p - l s) * T s u i
  a3 : ∀ s t i p, (l t - l s) * T t i p = (l i - l t) * T s t p + (l t - l p) * T s t i
  a4 : ∀ r s t i, (l t - l s) * T r s i = (l s - l r) * T s t i + (l i - l s) * T r s t
  z1 : ∀ t i, T t i t = 0
  z2 : ∀ t i, T t i i = 0
section
variable {l : Nat → Int} {T : Nat → Nat → Nat → Int} (g : Geo l T)
include g
theorem Geo.b1 {s u i p : Nat} (h1 : l s < l u) (h2 : l u < l i) (h3 : l u ≤ l p) (h4 : l p ≤ l i) (h5 : 0 ≤ T u i p) (h6 : T s u i ≤ 0) : 0 ≤ T s i p := by
  have e := g.a1 s u i p
  have a := Int.mul_nonneg (show 0 ≤ l i - l s by omega) h5
  have b := Int.mul_nonneg (show 0 ≤ l i - l p by omega) (show 0 ≤ - T s u i by omega)
  rw [Int.mul_neg] at b
  exact Int.nonneg_of_mul_nonneg_right (show 0 ≤ (l i - l u) * T s i p by omega) (by omega)
theorem Geo.b2 {s u i p : Nat} (h1 : l s < l u) (h2 : l u < l i) (h3 : l s ≤ l p) (h5 : 0 ≤ T s u p) (h6 : T s u i ≤ 0) : 0 ≤ T s i p := by
  have e := g.a2 s u i p
  have a := Int.mul_nonneg (show 0 ≤ l i - l s by omega) h5
  have b := Int.mul_nonneg (show 0 ≤ l p - l s by omega) (show 0 ≤ - T s u i by omega)
  rw [Int.mul_neg] at b
  exact Int.nonneg_of_mul_nonneg_right (show 0 ≤ (l u - l s) * T s i p by omega) (by omega)
theorem Geo.b3 {s t i p : Nat} (h1 : l s < l t) (h2 : l t < l i) (h3 : l p < l t) (h5 : 0 ≤ T s t p) (h6 : 0 < T s t i) : 0 < T t i p := by
  have e := g.a3 s t i p
  have a := Int.mul_nonneg (show 0 ≤ l i - l t by omega) h5
  have b := Int.mul_pos (show 0 < l t - l p by omega) h6
  exact Int.pos_of_mul_pos_right (show 0 < (l t - l s) * T t i p by omega) (by omega)
theorem Geo.b4 {r s t i : Nat} (h1 : l r < l s) (h2 : l s < l t) (h3 : l t < l i) (h5 : 0 < T r s t) (h6 : 0 < T s t i) : 0 < T r s i := by
  have e := g.a4 r s t i
  have a := Int.mul_pos (show 0 < l s - l r by omega) h6
  have b := Int.mul_pos (show 0 < l i - l s by omega) h5
  exact Int.pos_of_mul_pos_right (show 0 < (l t - l s) * T r s i by omega) (by omega)
end
/-- Places are dropped from the chain while the turn to the new one is no left turn. -/
def pop (T : Nat → Nat → Nat → Int) (i : Nat) : List Nat → List Nat
  | u :: s :: r => if T s u i ≤ 0 then pop T i (s :: r) else u :: s :: r
  | st => st
def chain (T : Nat → Nat → Nat → Int) (o : List Nat) : List Nat := o.foldl (fun st i => i :: pop T i st) []
/-- The neighbours of a chain (later one first). -/
def Adj (R : Nat → Nat → Prop) : List Nat → Prop
  | t :: s :: r => R s t ∧ Adj R (s :: r)
  | _ => True
def Cvx (T : Nat → Nat → Nat → Int) : List Nat → Prop
  | t :: s :: r :: q => 0 < T r s t ∧ Cvx T (s :: r :: q)
  | _ => True
def EdgeOk (l : Nat → Int) (T : Nat → Nat → Nat → Int) (D : List Nat) (s t : Nat) : Prop := ∀ p ∈ D, 0 ≤ T s t p ∧ (T s t p = 0 → l s ≤ l p ∧ l p ≤ l t)
theorem Adj.imp {R S : Nat → Nat → Prop} (h : ∀ a b, R a b → S a b) : ∀ {st : List Nat}, Adj R st → Adj S st
  | [], _ => trivial
  | [_], _ => trivial
  | _ :: _ :: _, ⟨h1, h2⟩ => ⟨h _ _ h1, Adj.imp h h2⟩
theorem Adj.tl {R : Nat → Nat → Prop} {t : Nat} {st : List Nat} (h : Adj R (t :: st)) : Adj R st := by
  cases st with
  | nil => trivial
  | cons s r => exact h.2
theorem Cvx.tl {T : Nat → Nat → Nat → Int} {t : Nat} {st : List Nat} (h : Cvx T (t :: st)) : Cvx T st := by
  match st with
  | [] => trivial
  | [_] => trivial
  | _ :: _ :: _ => exact h.2
/-- A chain over the places D behind it. -/
structure Inv (l : Nat → Int) (T : Nat → Nat → Nat → Int) (D : List Nat) (t : Nat) (st : List Nat) : Prop where
  dec : (t :: st).Pairwise (fun a b => l b < l a)
  mem : ∀ s ∈ t :: st, s ∈ D
  low : ∀ p ∈ D, l ((t :: st).getLast (by simp)) ≤ l p
  cvx : Cvx T (t :: st)
  edge : Adj (EdgeOk l T D) (t :: st)
section
variable {l : Nat → Int} {T : Nat → Nat → Nat → Int} (g : Geo l T)
include g
/-- The turn from each edge of the chain to the new place is a left turn, if it is from the last. -/
theorem cvx_all {i : Nat} : ∀ (st : List Nat) (t : Nat), (t :: st).Pairwise (fun a b => l b < l a) → l t < l i → Cvx T (i :: t :: st) → Adj (fun s t => 0 < T s t i) (t :: st)
  | [], _, _, _, _ => trivial
  | [s], t, h1, h2, h3 => ⟨h3.1, trivial⟩
  | s :: r :: q, t, h1, h2, h3 => by
    have d1 : l s < l t := (List.pairwise_cons.1 h1).1 s (by simp)
    have h1' := (List.pairwise_cons.1 h1).2
    have d2 : l r < l s := (List.pairwise_cons.1 h1').1 r (by simp)
    have k : 0 < T r s i := g.b4 d2 d1 h2 h3.2.1 h3.1
    exact ⟨h3.1, cvx_all (r :: q) s h1' (by omega) ⟨k, h3.2.2⟩⟩
theorem pop_inv {D : List Nat} {i : Nat} (hD : ∀ p ∈ D, l p < l i) : ∀ (st : List Nat) (t : Nat), Inv l T D t st → (∀ p ∈ D, l t ≤ l p → 0 ≤ T t i p) →
    ∃ t' st', pop T i (t :: st) = t' :: st' ∧ Inv l T D t' st' ∧ (∀ p ∈ D, l t' ≤ l p → 0 ≤ T t' i p) ∧ Cvx T (i :: t' :: st') ∧ (t' :: st').getLast (by simp) = (t :: st).getLast (by simp)
  | [], t, h, hJ => ⟨t, [], rfl, h, hJ, trivial, rfl⟩
  | s :: r, u, h, hJ => by
    have d1 : l s < l u := (List.pairwise_cons.1 h.dec).1 s (by simp)
    have hu : u ∈ D := h.mem u (by simp)
    rw [pop]
    by_cases c : T s u i ≤ 0
    · rw [if_pos c]
      have hi : Inv l T D s r := ⟨(List.pairwise_cons.1 h.dec).2, fun x hx => h.mem x (List.mem_cons_of_mem _ hx), fun p hp => by have := h.low p hp; rwa [List.getLast_cons (by simp)] at this, h.cvx.tl, h.edge.tl⟩
      obtain ⟨t', st', e1, e2, e3, e4, e5⟩ := pop_inv hD r s hi fun p hp hsp => by
        rcases Int.lt_or_le (l p) (l u) with k | k
        · exact g.b2 d1 (hD u hu) hsp (h.edge.1 p hp).1 c
        · exact g.b1 d1 (hD u hu) k (Int.le_of_lt (hD p hp)) (hJ p hp k) c
      exact ⟨t', st', e1, e2, e3, e4, by rw [e5, List.getLast_cons (a := u) (by simp)]⟩
    · rw [if_neg c]
      exact ⟨u, s :: r, rfl, h, hJ, ⟨by omega, h.cvx⟩, rfl⟩
theorem push_inv {D : List Nat} {i t : Nat} {st : List Nat} (hD : ∀ p ∈ D, l p < l i) (h : Inv l T D t st) (hmax : ∀ p ∈ D, l t ≤ l p → p = t) :
    ∃ st', pop T i (t :: st) = st' ∧ Inv l T (D ++ [i]) i st' ∧ (i :: st').getLast (by simp) = (t :: st).getLast (by simp) := by
  obtain ⟨t', st', e1, e2, e3, e4, e5⟩ := pop_inv g hD st t h fun p hp k => by rw [hmax p hp k, g.z1]; omega
  have ht' : t' ∈ D := e2.mem t' (by simp)
  have el : (i :: t' :: st').getLast (by simp) = (t' :: st').getLast (by simp) := List.getLast_cons (by simp)
  refine ⟨t' :: st', e1, ⟨?_, ?_, ?_, e4, ?_⟩, by rw [el, e5]⟩
  · refine List.pairwise_cons.2 ⟨fun x hx => hD x (e2.mem x hx), e2.dec⟩
  · intro x hx
    rcases List.mem_cons.1 hx with rfl | hx
    · simp
    · exact List.mem_append_left _ (e2.mem x hx)
  · intro p hp
    rw [el]
    rcases List.mem_append.1 hp with hp | hp
    · exact e2.low p hp
    · rw [List.mem_singleton.1 hp]
      exact Int.le_trans (e2.low t' ht') (Int.le_of_lt (hD t' ht'))
  · refine ⟨fun p hp => ?_, ?_⟩
    · rcases List.mem_append.1 hp with hp | hp
      · rcases Int.lt_or_le (l p) (l t') with k | k
        · match st', e2, e4 with
          | [], e2, e4 => exact absurd (e2.low p hp) (by simp only [List.getLast_singleton]; omega)
          | s :: r, e2, e4 =>
            have := g.b3 ((List.pairwise_cons.1 e2.dec).1 s (by simp)) (hD t' ht') k (e2.edge.1 p hp).1 e4.1
            exact ⟨by omega, fun h0 => by omega⟩
        · exact ⟨e3 p hp k, fun _ => ⟨k, Int.le_of_lt (hD p hp)⟩⟩
      · rw [List.mem_singleton.1 hp, g.z2]
        exact ⟨Int.le_refl _, fun _ => ⟨Int.le_of_lt (hD t' ht'), Int.le_refl _⟩⟩
    · have hall := cvx_all g st' t' e2.dec (hD t' ht') e4
      have := e2.edge
      revert hall this
      generalize t' :: st' = L
      intro h1 h2
      induction L with
      | nil => trivial
      | cons a L ih =>
        cases L with
        | nil => trivial
        | cons b L =>
          refine ⟨fun p hp => ?_, ih h1.2 h2.2⟩
          rcases List.mem_append.1 hp with hp | hp
          · exact h2.1 p hp
          · rw [List.mem_singleton.1 hp]
            have := h1.1
            exact ⟨by omega, fun h0 => by omega⟩
/-- The chain over places that rise. -/
theorem chain_inv : ∀ (o D : List Nat) (t : Nat) (st : List Nat), Inv l T D t st → (∀ p ∈ D, l t ≤ l p → p = t) → o.Pairwise (fun a b => l a < l b) → (∀ p ∈ D, ∀ i ∈ o, l p < l i) →
    ∃ t' st', o.foldl (fun st i => i :: pop T i st) (t :: st) = t' :: st' ∧ Inv l T (D ++ o) t' st' ∧ t' = (t :: o).getLast (by simp) ∧ (t' :: st').getLast (by simp) = (t :: st).getLast (by simp)
  | [], D, t, st, h, _, _, _ => ⟨t, st, rfl, by rwa [List.append_nil], rfl, rfl⟩
  | i :: o, D, t, st, h, hm, hp, hD => by
    obtain ⟨st1, e1, e2, e3⟩ := push_inv g (fun p q => hD p q i (by simp)) h hm
    obtain ⟨t', st', f1, f2, f3, f4⟩ := chain_inv o (D ++ [i]) i st1 e2
      (fun p q k => by
        rcases List.mem_append.1 q with q | q
        · have := hD p q i (by simp); omega
        · exact List.mem_singleton.1 q) (List.pairwise_cons.1 hp).2
      (fun p q j hj => by
        rcases List.mem_append.1 q with q | q
        · exact hD p q j (List.mem_cons_of_mem _ hj)
        · rw [List.mem_singleton.1 q]; exact (List.pairwise_cons.1 hp).1 j hj)
    refine ⟨t', st', by rw [List.foldl_cons, e1]; exact f1, by rwa [List.append_assoc] at f2, by rw [f3, List.getLast_cons (a := t) (by simp)], by rw [f4, e3]⟩
theorem chain_ok {a : Nat} {o : List Nat} (hp : (a :: o).Pairwise (fun a b => l a < l b)) :
    ∃ t st, chain T (a :: o) = t :: st ∧ Inv l T (a :: o) t st ∧ t = (a :: o).getLast (by simp) ∧ (t :: st).getLast (by simp) = a := by
  obtain ⟨t, st, e1, e2, e3, e4⟩ := chain_inv g o [a] a [] ⟨List.pairwise_singleton _ _, fun s h => h, fun p h => by rw [List.mem_singleton.1 h]; exact Int.le_refl _, trivial, trivial⟩
    (fun p h _ => List.mem_singleton.1 h) (List.pairwise_cons.1 hp).2 (fun p h i hi => by rw [List.mem_singleton.1 h]; exact (List.pairwise_cons.1 hp).1 i hi)
  exact ⟨t, st, e1, e2, e3, e4⟩
end
theorem Adj.get {R : Nat → Nat → Prop} : ∀ {st : List Nat}, Adj R st → ∀ j, j + 1 < st.length → R (st.getD (j + 1) 0) (st.getD j 0)
  | [], _, j, h => absurd h (by simp)
  | [_], _, j, h => absurd h (by simp)
  | t :: s :: r, h, 0, _ => by simpa using h.1
  | t :: s :: r, h, j + 1, hj => by
    have := Adj.get h.2 j (by simpa using hj)
    simpa using this
theorem gE (l : List Nat) (j : Nat) (h : j < l.length) : l.getD j 0 = l[j] := by simp [List.getD, h]
theorem gApp (a b : List Nat) (j : Nat) (h : j < a.length) : (a ++ b).getD j 0 = a.getD j 0 := by simp [List.getD, List.getElem?_append_left h]
theorem gAppR (a b : List Nat) (j : Nat) (h : a.length ≤ j) : (a ++ b).getD j 0 = b.getD (j - a.length) 0 := by simp [List.getD, List.getElem?_append_right h]
theorem getD_rev (l : List Nat) (j : Nat) (h : j < l.length) : l.reverse.getD j 0 = l.getD (l.length - 1 - j) 0 := by
  rw [gE _ _ (by simpa using h), gE _ _ (by omega), List.getElem_reverse]
theorem getD_cut (a b : List Nat) (j : Nat) : (j < a.length - 1 → (a.dropLast ++ b).getD j 0 = a.getD j 0) ∧ (a.length - 1 ≤ j → (a.dropLast ++ b).getD j 0 = b.getD (j - (a.length - 1)) 0) := by
  refine ⟨fun h => ?_, fun h => ?_⟩
  · rw [gApp _ _ _ (by simpa using h), gE _ _ (by simpa using h), gE _ _ (by omega), List.getElem_dropLast]
  · rw [gAppR _ _ _ (by simpa using h), List.length_dropLast]
theorem getD_dl (a : List Nat) (j : Nat) (h : j < a.length - 1) : a.dropLast.getD j 0 = a.getD j 0 := by
  rw [gE _ _ (by simpa using h), gE _ _ (by omega), List.getElem_dropLast]
theorem last_getD (t : Nat) (st : List Nat) : (t :: st).getLast (by simp) = (t :: st).getD st.length 0 := by
  rw [List.getLast_eq_getElem, gE _ _ (by simp)]
  simp
/-- The height of a place: by its first coordinate, then by its second. -/
def lv (a : Pt) : Int := 4194304 * a.1 + a.2
def nr (a : Pt) : Prop := -1048576 ≤ a.2 ∧ a.2 ≤ 1048576
def lx (a b : Pt) : Prop := a.1 < b.1 ∨ a.1 = b.1 ∧ a.2 < b.2
theorem lv_lt {a b : Pt} (ha : nr a) (hb : nr b) : lv a < lv b ↔ lx a b := by
  unfold lv lx
  unfold nr at ha hb
  omega
theorem lv_eq {a b : Pt} (ha : nr a) (hb : nr b) (h : lv a = lv b) : a = b := by
  unfold lv at h
  unfold nr at ha hb
  exact Prod.ext (by omega) (by omega)
theorem geo_up (F : Nat → Pt) : Geo (fun a => lv (F a)) (fun a b c => trn (F a) (F b) (F c)) := by
  refine ⟨?_, ?_, ?_, ?_, ?_, ?_⟩ <;> intros <;> simp only [lv, trn] <;> grind
theorem geo_down (F : Nat → Pt) : Geo (fun a => - lv (F a)) (fun a b c => trn (F a) (F b) (F c)) := by
  refine ⟨?_, ?_, ?_, ?_, ?_, ?_⟩ <;> intros <;> simp only [lv, trn] <;> grind
/-- All n places lie to the left of the way from a to b, or on it. -/
def E (F : Nat → Pt) (n a b : Nat) : Prop := F a ≠ F b ∧ ∀ p, p < n → 0 ≤ trn (F a) (F b) (F p) ∧ (trn (F a) (F b) (F p) = 0 → (lv (F a) ≤ lv (F p) ∧ lv (F p) ≤ lv (F b)) ∨ (lv (F b) ≤ lv (F p) ∧ lv (F p) ≤ lv (F a)))
def Rep (F : Nat → Pt) (n a : Nat) : Prop := a < n ∧ ∀ q, q < a → F q ≠ F a
/-- The corners. -/
structure HullIs (F : Nat → Pt) (n : Nat) (H : List Nat) : Prop where
  ne : 0 < H.length
  rep : ∀ j, j < H.length → Rep F n (H.getD j 0)
  low : ∀ p, p < n → lv (F (H.getD 0 0)) ≤ lv (F p)
  one : H.length = 1 → ∀ p, p < n → F p = F (H.getD 0 0)
  edge : 2 ≤ H.length → ∀ j, j < H.length → E F n (H.getD j 0) (H.getD ((j + 1) % H.length) 0)
  dist : ∀ j, 0 < j → j < H.length → F (H.getD j 0) ≠ F (H.getD 0 0)
/-- The places that are sorted: of each position the first place. -/
structure OrdIs (F : Nat → Pt) (n : Nat) (o : List Nat) : Prop where
  srt : o.Pairwise (fun a b => lv (F a) < lv (F b))
  rep : ∀ a ∈ o, Rep F n a
  all : ∀ p, p < n → ∃ a ∈ o, F a = F p
def turns (F : Nat → Pt) : Nat → Nat → Nat → Int := fun a b c => trn (F a) (F b) (F c)
def corners (F : Nat → Pt) (o : List Nat) : List Nat := if o.length = 1 then o else (chain (turns F) o).reverse.dropLast ++ (chain (turns F) o.reverse).reverse.dropLast
theorem corners_ok {F : Nat → Pt} {n : Nat} {o : List Nat} (h : OrdIs F n o) (hn : 0 < n) : HullIs F n (corners F o) := by
  unfold corners
  match o, h with
  | [], h => exact absurd (h.all 0 hn) (by simp)
  | [a], h =>
    rw [if_pos (show [a].length = 1 from rfl)]
    have hall : ∀ p, p < n → F p = F a := fun p hp => by
      obtain ⟨b, hb, e⟩ := h.all p hp
      rw [← e, List.mem_singleton.1 hb]
    exact ⟨by simp, fun j hj => by
      obtain rfl : j = 0 := by simpa using hj
      exact h.rep a (by simp), fun p hp => by rw [hall p hp]; exact Int.le_refl _, fun _ p hp => hall p hp, fun h2 => absurd h2 (by simp), fun j h1 h2 => absurd h2 (by simp; omega)⟩
  | a :: b :: o, h =>
    rw [if_neg (by simp)]
    obtain ⟨z, ro, hro⟩ : ∃ z ro, (a :: b :: o).reverse = z :: ro := by
      match hm : (a :: b :: o).reverse with
      | [] => simp at hm
      | z :: ro => exact ⟨z, ro, rfl⟩
    obtain ⟨t, st, u1, u2, u3, u4⟩ := chain_ok (geo_up F) (l := fun a => lv (F a)) h.srt
    have hsr : (z :: ro).Pairwise (fun a b => - lv (F a) < - lv (F b)) := by
      rw [← hro, List.pairwise_reverse]
      exact h.srt.imp fun hab => by omega
    obtain ⟨t', st', d1, d2, d3, d4⟩ := chain_ok (geo_down F) (l := fun a => - lv (F a)) hsr
    have hz : z = t := by
      have e : (z :: ro).head? = (a :: b :: o).getLast? := by rw [← hro, List.head?_reverse]
      rw [List.getLast?_eq_some_getLast (by simp), ← u3] at e
      simpa using e
    have ht' : t' = a := by
      rw [d3]
      have e : (z :: ro).getLast? = (a :: b :: o).head? := by rw [← hro, List.getLast?_reverse]
      rw [List.getLast?_eq_some_getLast (by simp)] at e
      simpa using e
    have hne : lv (F a) < lv (F t) := by
      rw [u3]
      have : (a :: b :: o).getLast (by simp) = (b :: o).getLast (by simp) := List.getLast_cons (by simp)
      rw [this]
      exact (List.pairwise_cons.1 h.srt).1 _ (List.getLast_mem _)
    have hr : 0 < st.length := by
      cases st with
      | nil => simp at u4; rw [u4] at hne; omega
      | cons _ _ => simp
    have hs : 0 < st'.length := by
      cases st' with
      | nil => simp at d4; rw [d4, hz] at ht'; rw [ht'] at hne; omega
      | cons _ _ => simp
    rw [hro]
    have u1' : chain (turns F) (a :: b :: o) = t :: st := u1
    have d1' : chain (turns F) (z :: ro) = t' :: st' := d1
    rw [u1', d1']
    rw [last_getD] at u4 d4
    generalize hU : t :: st = U at *
    generalize hD : t' :: st' = V at *
    have lU : U.length = st.length + 1 := by rw [← hU]; simp
    have lV : V.length = st'.length + 1 := by rw [← hD]; simp
    generalize hr' : st.length = r at *
    generalize hs' : st'.length = s at *
    have U0 : U.getD 0 0 = t := by rw [← hU]; rfl
    have V0 : V.getD 0 0 = a := by rw [← hD, ← ht']; rfl
    have hlen : (U.reverse.dropLast ++ V.reverse.dropLast).length = r + s := by simp; omega
    have gA : ∀ j, j < r → (U.reverse.dropLast ++ V.reverse.dropLast).getD j 0 = U.getD (r - j) 0 := fun j hj => by
      rw [(getD_cut _ _ j).1 (by simp; omega), getD_rev _ _ (by omega)]
      congr 1; omega
    have gB : ∀ k, k < s → (U.reverse.dropLast ++ V.reverse.dropLast).getD (r + k) 0 = V.getD (s - k) 0 := fun k hk => by
      rw [(getD_cut _ _ (r + k)).2 (by simp; omega), getD_dl _ _ (by simp; omega), getD_rev _ _ (by simp; omega)]
      congr 1; simp; omega
    have mU : ∀ j, j ≤ r → U.getD j 0 ∈ a :: b :: o := fun j hj => u2.mem _ (by
      rw [hU, gE _ _ (by omega)]; exact List.getElem_mem _)
    have mV : ∀ j, j ≤ s → V.getD j 0 ∈ a :: b :: o := fun j hj => by
      have : V.getD j 0 ∈ z :: ro := d2.mem _ (by rw [hD, gE _ _ (by omega)]; exact List.getElem_mem _)
      rw [← hro] at this
      exact List.mem_reverse.1 this
    have eU : ∀ j, j < r → E F n (U.getD (j + 1) 0) (U.getD j 0) := fun j hj => by
      have q := u2.edge
      rw [hU] at q
      have q := Adj.get q j (by omega)
      have dec := u2.dec
      rw [hU] at dec
      have w : lv (F (U.getD (j + 1) 0)) < lv (F (U.getD j 0)) := by
        rw [gE _ _ (by omega), gE _ _ (by omega)]
        exact List.pairwise_iff_getElem.1 dec j (j + 1) (by omega) (by omega) (by omega)
      refine ⟨fun e => by rw [e] at w; omega, fun p hp => ?_⟩
      obtain ⟨c, hc, e⟩ := h.all p hp
      rw [← e]
      exact ⟨(q c hc).1, fun h0 => .inl ((q c hc).2 h0)⟩
    have eV : ∀ j, j < s → E F n (V.getD (j + 1) 0) (V.getD j 0) := fun j hj => by
      have q := d2.edge
      rw [hD] at q
      have q := Adj.get q j (by omega)
      have dec := d2.dec
      rw [hD] at dec
      have w : - lv (F (V.getD (j + 1) 0)) < - lv (F (V.getD j 0)) := by
        rw [gE _ _ (by omega), gE _ _ (by omega)]
        exact List.pairwise_iff_getElem.1 dec j (j + 1) (by omega) (by omega) (by omega)
      refine ⟨fun e => by rw [e] at w; omega, fun p hp => ?_⟩
      obtain ⟨c, hc, e⟩ := h.all p hp
      have hc' : c ∈ z :: ro := by rw [← hro]; exact List.mem_reverse.2 hc
      rw [← e]
      have := q c hc'
      exact ⟨this.1, fun h0 => .inr (by have := this.2 h0; dsimp only at this; omega)⟩
    have low : ∀ x ∈ a :: b :: o, lv (F a) ≤ lv (F x) := fun x hx => by
      rcases List.mem_cons.1 hx with rfl | hx
      · exact Int.le_refl _
      · exact Int.le_of_lt ((List.pairwise_cons.1 h.srt).1 x hx)
    have h0 : (U.reverse.dropLast ++ V.reverse.dropLast).getD 0 0 = a := by rw [gA 0 hr]; exact u4
    refine ⟨by omega, fun j hj => ?_, fun p hp => ?_, fun h1 => by omega, fun _ j hj => ?_, fun j hj0 hj => ?_⟩
    · rcases Nat.lt_or_ge j r with c | c
      · rw [gA j c]; exact h.rep _ (mU _ (by omega))
      · have := gB (j - r) (by omega)
        rw [show r + (j - r) = j from by omega] at this
        rw [this]; exact h.rep _ (mV _ (by omega))
    · rw [h0]
      obtain ⟨c, hc, e⟩ := h.all p hp
      rw [← e]; exact low c hc
    · rw [hlen] at hj ⊢
      rcases Nat.lt_or_ge j r with c | c
      · rw [gA j c]
        have := eU (r - j - 1) (by omega)
        rw [show r - j - 1 + 1 = r - j from by omega] at this
        rcases Nat.lt_or_ge (j + 1) r with c2 | c2
        · rw [Nat.mod_eq_of_lt (by omega), gA (j + 1) c2]; exact this
        · have k := gB 0 hs
          rw [Nat.mod_eq_of_lt (by omega), show j + 1 = r + 0 from by omega, k, show s - 0 = s from rfl, d4, hz, ← U0]
          rw [show r - j - 1 = 0 from by omega] at this
          exact this
      · have k1 := gB (j - r) (by omega)
        rw [show r + (j - r) = j from by omega] at k1
        rw [k1]
        have := eV (s - (j - r) - 1) (by omega)
        rw [show s - (j - r) - 1 + 1 = s - (j - r) from by omega] at this
        rcases Nat.lt_or_ge (j + 1) (r + s) with c2 | c2
        · have k2 := gB (j + 1 - r) (by omega)
          rw [show r + (j + 1 - r) = j + 1 from by omega] at k2
          rw [Nat.mod_eq_of_lt c2, k2, show s - (j + 1 - r) = s - (j - r) - 1 from by omega]
          exact this
        · rw [show j + 1 = r + s from by omega, Nat.mod_self, h0, ← V0]
          rw [show s - (j - r) - 1 = 0 from by omega] at this
          exact this
    · rw [h0]
      have w : lv (F a) < lv (F ((U.reverse.dropLast ++ V.reverse.dropLast).getD j 0)) := by
        rw [hlen] at hj
        rcases Nat.lt_or_ge j r with c | c
        · rw [gA j c]
          have dec := u2.dec
          rw [hU] at dec
          rw [← u4, gE _ _ (by omega), gE _ _ (by omega)]
          exact List.pairwise_iff_getElem.1 dec (r - j) r (by omega) (by omega) (by omega)
        · have k1 := gB (j - r) (by omega)
          rw [show r + (j - r) = j from by omega] at k1
          rw [k1]
          have dec := d2.dec
          rw [hD] at dec
          have : - lv (F (V.getD (s - (j - r)) 0)) < - lv (F (V.getD 0 0)) := by
            rw [gE _ _ (by omega), gE _ _ (by omega)]
            exact List.pairwise_iff_getElem.1 dec 0 (s - (j - r)) (by omega) (by omega) (by omega)
          rw [V0] at this
          omega
      intro e
      rw [e] at w
      omega
def crs (a b c : Pt) : Int := (b.1 - a.1) * (c.2 - a.2) - (c.1 - a.1) * (b.2 - a.2)
def dst (a b : Pt) : Int := (a.1 - b.1) * (a.1 - b.1) + (a.2 - b.2) * (a.2 - b.2)
theorem crs_trn (a b c : Pt) : crs a b c = trn a b c := by unfold crs trn; grind
theorem crs_swap (a b c : Pt) : crs a b c = - trn a c b := by unfold crs trn; grind
theorem trn_turn (a b c : Pt) : trn a b c = trn b c a := by unfold trn; grind
theorem trn_flip (a b c : Pt) : trn b a c = - trn a b c := by unfold trn; grind
theorem sq_le {a b : Int} (h0 : 0 ≤ a) (h : a ≤ b) : a * a ≤ b * b := Int.mul_le_mul h h h0 (by omega)
theorem sq_eq {a b : Int} (h0 : 0 ≤ a) (h : a ≤ b) (e : b * b ≤ a * a) : a = b := by
  rcases Int.lt_or_eq_of_le h with h | h
  · have := Int.mul_lt_mul' (Int.le_of_lt h) h h0 (by omega)
    omega
  · exact h
theorem sq_pos {a : Int} (h : a ≠ 0) : 0 < a * a := by
  rcases Int.lt_or_gt_of_ne h with h | h
  · exact Int.mul_pos_of_neg_of_neg h h
  · exact Int.mul_pos h h
/-- A vector along another, no farther. -/
theorem seg {ux uy vx vy : Int} (hc : ux * vy = uy * vx) (h0 : 0 ≤ vx) (h1 : vx ≤ ux) (h2 : ux = 0 → 0 ≤ vy ∧ vy ≤ uy) : vx * vx + vy * vy ≤ ux * ux + uy * uy ∧ (ux * ux + uy * uy ≤ vx * vx + vy * vy → vx = ux ∧ vy = uy) := by
  by_cases hu : ux = 0
  · obtain ⟨a, b⟩ := h2 hu
    subst hu
    obtain rfl : vx = 0 := by omega
    have := sq_le a b
    exact ⟨by omega, fun h => ⟨rfl, sq_eq a b (by omega)⟩⟩
  · have k := sq_le h0 h1
    have q : vy * vy ≤ uy * uy := by
      have e : (ux * ux) * (vy * vy) = (uy * uy) * (vx * vx) := by
        have : (ux * vy) * (ux * vy) = (uy * vx) * (uy * vx) := by rw [hc]
        grind
      have f : (uy * uy) * (vx * vx) ≤ (uy * uy) * (ux * ux) := Int.mul_le_mul_of_nonneg_left k (by
        by_cases hy : uy = 0
        · subst hy; simp
        · exact Int.le_of_lt (sq_pos hy))
      rw [← e, Int.mul_comm (uy * uy)] at f
      exact Int.le_of_mul_le_mul_left f (sq_pos hu)
    refine ⟨by omega, fun h => ?_⟩
    have e := sq_eq h0 h1 (by omega)
    subst e
    refine ⟨rfl, ?_⟩
    rw [Int.mul_comm uy] at hc
    exact Int.eq_of_mul_eq_mul_left hu hc
theorem btw_dst {a b p : Pt} (ha : nr a) (hb : nr b) (hp : nr p) (h0 : trn a b p = 0) (h : (lv a ≤ lv p ∧ lv p ≤ lv b) ∨ (lv b ≤ lv p ∧ lv p ≤ lv a)) : dst a p ≤ dst a b ∧ (dst a b ≤ dst a p → p = b) := by
  unfold trn at h0
  unfold lv at h
  unfold nr at ha hb hp
  have e1 : ∀ x y : Int, (a.1 - x) * (a.1 - x) = (x - a.1) * (x - a.1) := fun x y => by grind
  have e2 : ∀ y : Int, (a.2 - y) * (a.2 - y) = (y - a.2) * (y - a.2) := fun y => by grind
  unfold dst
  rcases h with h | h
  · rw [e1 p.1 0, e2, e1 b.1 0, e2]
    have := seg (ux := b.1 - a.1) (uy := b.2 - a.2) (vx := p.1 - a.1) (vy := p.2 - a.2) (by omega) (by omega) (by omega) (fun _ => by omega)
    exact ⟨this.1, fun k => by have := this.2 k; exact Prod.ext (by omega) (by omega)⟩
  · have := seg (ux := a.1 - b.1) (uy := a.2 - b.2) (vx := a.1 - p.1) (vy := a.2 - p.2) (by grind) (by omega) (by omega) (fun _ => by omega)
    exact ⟨this.1, fun k => by have := this.2 k; exact Prod.ext (by omega) (by omega)⟩
/-- The next corner, as it is looked for. -/
def nstep (F : Nat → Pt) (now : Pt) (nx : Int) (i : Nat) : Int :=
  if F i = now then nx else if nx < 0 then i else if crs now (F nx.toNat) (F i) < 0 ∨ (crs now (F nx.toNat) (F i) = 0 ∧ dst now (F nx.toNat) < dst now (F i)) then i else nx
def nxt (F : Nat → Pt) (now : Pt) : Nat → Int
  | 0 => -1
  | k + 1 => nstep F now (nxt F now k) k
theorem nxt_range (F : Nat → Pt) (now : Pt) : ∀ k, -1 ≤ nxt F now k ∧ nxt F now k < k
  | 0 => ⟨Int.le_refl _, by show (-1 : Int) < _; omega⟩
  | k + 1 => by
    have := nxt_range F now k
    show -1 ≤ nstep F now (nxt F now k) k ∧ nstep F now (nxt F now k) k < _
    unfold nstep
    repeat' split
    all_goals omega
theorem nxt_mid {F : Nat → Pt} {n a b : Nat} (hN : ∀ i, i < n → nr (F i)) (ha : a < n) (hb : Rep F n b) (hE : E F n a b) : ∀ k, k ≤ n → (k ≤ b → nxt F (F a) k = -1 ∨ (0 ≤ nxt F (F a) k ∧ F (nxt F (F a) k).toNat ≠ F a)) ∧ (b < k → nxt F (F a) k = b)
  | 0, _ => ⟨fun _ => .inl rfl, fun h => absurd h (by omega)⟩
  | k + 1, hk => by
    obtain ⟨h1, h2⟩ := nxt_mid hN ha hb hE k (by omega)
    have hr := nxt_range F (F a) k
    rw [nxt]
    generalize nxt F (F a) k = x at *
    refine ⟨fun h => ?_, fun h => ?_⟩
    · have := h1 (by omega)
      unfold nstep
      by_cases c : F k = F a
      · rw [if_pos c]; exact this
      · rw [if_neg c]
        right
        repeat' split
        · exact ⟨by omega, by simpa using c⟩
        · exact ⟨by omega, by simpa using c⟩
        · refine ⟨by omega, ?_⟩
          rcases this with g | g
          · omega
          · exact g.2
    · rcases Nat.lt_or_ge b k with c | c
      · obtain rfl := h2 c
        unfold nstep
        by_cases c2 : F k = F a
        · rw [if_pos c2]
        · have ek := hE.2 k (by omega)
          rw [if_neg c2, if_neg (by omega), if_neg]
          rw [Int.toNat_natCast, crs_trn]
          rintro (g | ⟨g, g2⟩)
          · omega
          · have := (btw_dst (hN a ha) (hN b hb.1) (hN k (by omega)) g (ek.2 g)).1
            omega
      · obtain rfl : k = b := by omega
        have := h1 (Nat.le_refl _)
        unfold nstep
        rw [if_neg (fun e => hE.1 e.symm)]
        by_cases c2 : x < 0
        · rw [if_pos c2]
        · rw [if_neg c2]
          have hx : x.toNat < k := by omega
          have ex := hE.2 x.toNat (by omega)
          rw [if_pos]
          rw [crs_swap]
          by_cases g : trn (F a) (F k) (F x.toNat) = 0
          · right
            refine ⟨by omega, ?_⟩
            have := btw_dst (hN a ha) (hN k hb.1) (hN _ (by omega)) g (ex.2 g)
            rcases Int.lt_or_le (dst (F a) (F x.toNat)) (dst (F a) (F k)) with q | q
            · exact q
            · exact absurd (this.2 q) (hb.2 _ hx)
          · left; omega
/-- From a corner the next corner is found. -/
theorem HullIs.next {F : Nat → Pt} {n : Nat} {H : List Nat} (hN : ∀ i, i < n → nr (F i)) (h : HullIs F n H) (h2 : 2 ≤ H.length) (j : Nat) (hj : j < H.length) : nxt F (F (H.getD j 0)) n = (H.getD ((j + 1) % H.length) 0 : Nat) := by
  have hb := h.rep ((j + 1) % H.length) (Nat.mod_lt _ (by omega))
  exact (nxt_mid hN (h.rep j hj).1 hb (h.edge h2 j hj) n (Nat.le_refl _)).2 hb.1
/-- Where all places are one there is no next corner. -/
theorem HullIs.next1 {F : Nat → Pt} {n : Nat} {H : List Nat} (h : HullIs F n H) (h2 : H.length = 1) : nxt F (F (H.getD 0 0)) n = -1 := by
  have : ∀ k, k ≤ n → nxt F (F (H.getD 0 0)) k = -1 := fun k => by
    induction k with
    | zero => exact fun _ => rfl
    | succ k ih =>
      intro hk
      rw [nxt, ih (by omega)]
      unfold nstep
      rw [if_pos (h.one h2 k (by omega))]
  exact this n (Nat.le_refl _)
/-- The first place: the lowest, and of these the first. -/
instance (a b : Pt) : Decidable (lx a b) := by unfold lx; exact inferInstance
def fst (F : Nat → Pt) : Nat → Nat
  | 0 => 0
  | k + 1 => if lx (F k) (F (fst F k)) then k else fst F k
theorem fst_ok {F : Nat → Pt} {n h0 : Nat} (hN : ∀ i, i < n → nr (F i)) (hr : Rep F n h0) (hl : ∀ p, p < n → lv (F h0) ≤ lv (F p)) : ∀ k, k ≤ n → (k ≤ h0 → fst F k ≤ k) ∧ (h0 < k → fst F k = h0)
  | 0, _ => ⟨fun _ => Nat.le_refl _, fun h => absurd h (by omega)⟩
  | k + 1, hk => by
    obtain ⟨h1, h2⟩ := fst_ok hN hr hl k (by omega)
    rw [fst]
    refine ⟨fun h => ?_, fun h => ?_⟩
    · split
      · omega
      · have := h1 (by omega); omega
    · rcases Nat.lt_or_ge h0 k with c | c
      · rw [h2 c, if_neg]
        rw [← lv_lt (hN k (by omega)) (hN _ hr.1)]
        have := hl k (by omega); omega
      · obtain rfl : k = h0 := by omega
        have g := h1 (Nat.le_refl _)
        rcases Nat.lt_or_ge (fst F k) k with c2 | c2
        · rw [if_pos]
          rw [← lv_lt (hN _ hr.1) (hN _ (by omega))]
          have := hl (fst F k) (by omega)
          rcases Int.lt_or_eq_of_le this with q | q
          · exact q
          · exact absurd (lv_eq (hN _ hr.1) (hN _ (by omega)) q).symm (hr.2 _ c2)
        · split
          · rfl
          · omega
theorem HullIs.first {F : Nat → Pt} {n : Nat} {H : List Nat} (hN : ∀ i, i < n → nr (F i)) (h : HullIs F n H) : fst F n = H.getD 0 0 :=
  (fst_ok hN (h.rep 0 h.ne) h.low n (Nat.le_refl _)).2 (h.rep 0 h.ne).1
/-- Two corner lists of one row of places are one. -/
theorem HullIs.uniq {F : Nat → Pt} {n : Nat} {H K : List Nat} (hN : ∀ i, i < n → nr (F i)) (h : HullIs F n H) (k : HullIs F n K) : H = K := by
  have e0 : H.getD 0 0 = K.getD 0 0 := by rw [← h.first hN, ← k.first hN]
  have h1 := h.ne
  have k1 := k.ne
  by_cases ha : H.length = 1
  · have hb : K.length = 1 := by
      rcases Nat.lt_or_ge K.length 2 with c | c
      · omega
      · have := h.one ha
        exact absurd (by rw [this _ (k.rep 1 (by omega)).1, e0]) (k.dist 1 (by omega) (by omega))
    match H, K, ha, hb with
    | [a], [b], _, _ => simp at e0; rw [e0]
  · have hb : ¬ K.length = 1 := fun hb => by
      have := k.one hb
      exact absurd (by rw [this _ (h.rep 1 (by omega)).1, e0]) (h.dist 1 (by omega) (by omega))
    have all : ∀ j, j < H.length → j < K.length → H.getD j 0 = K.getD j 0 := fun j => by
      induction j with
      | zero => exact fun _ _ => e0
      | succ j ih =>
        intro c1 c2
        have a := h.next hN (by omega) j (by omega)
        have b := k.next hN (by omega) j (by omega)
        rw [Nat.mod_eq_of_lt c1, ih (by omega) (by omega), b, Nat.mod_eq_of_lt c2] at a
        exact (Int.ofNat_inj.1 a).symm
    have hlen : H.length = K.length := by
      rcases Nat.lt_trichotomy H.length K.length with c | c | c
      · have a := h.next hN (by omega) (H.length - 1) (by omega)
        have b := k.next hN (by omega) (H.length - 1) (by omega)
        rw [all _ (by omega) (by omega), b, show H.length - 1 + 1 = H.length from by omega, Nat.mod_self, Nat.mod_eq_of_lt c, e0] at a
        exact absurd (by rw [Int.ofNat_inj.1 a]) (k.dist H.length (by omega) c)
      · exact c
      · have a := h.next hN (by omega) (K.length - 1) (by omega)
        have b := k.next hN (by omega) (K.length - 1) (by omega)
        rw [← all _ (by omega) (by omega), a, show K.length - 1 + 1 = K.length from by omega, Nat.mod_self, Nat.mod_eq_of_lt c, ← e0] at b
        exact absurd (by rw [Int.ofNat_inj.1 b]) (h.dist K.length (by omega) c)
    refine List.ext_getElem hlen fun j c1 c2 => ?_
    rw [← gE H j c1, ← gE K j c2]
    exact all j c1 c2
/-- There is a sorted row of places. -/
theorem ord_ex (F : Nat → Pt) : ∀ n, (∀ i, i < n → nr (F i)) → ∃ o, OrdIs F n o
  | 0, _ => ⟨[], List.Pairwise.nil, fun a h => absurd h (by simp), fun p h => absurd h (by omega)⟩
  | n + 1, hN => by
    obtain ⟨o, h⟩ := ord_ex F n fun i hi => hN i (by omega)
    have up : ∀ a, Rep F n a → Rep F (n + 1) a := fun a ⟨h1, h2⟩ => ⟨by omega, h2⟩
    by_cases c : ∃ a ∈ o, F a = F n
    · refine ⟨o, h.srt, fun a ha => up a (h.rep a ha), fun p hp => ?_⟩
      rcases Nat.lt_or_ge p n with g | g
      · exact h.all p g
      · rw [show p = n from by omega]; exact c
    · refine ⟨o.filter (fun a => decide (lv (F a) < lv (F n))) ++ n :: o.filter (fun a => decide (lv (F n) < lv (F a))), ?_, ?_, ?_⟩
      · rw [List.pairwise_append]
        refine ⟨h.srt.filter _, List.pairwise_cons.2 ⟨fun a ha => by simpa using (List.mem_filter.1 ha).2, h.srt.filter _⟩, fun a ha b hb => ?_⟩
        have q1 : lv (F a) < lv (F n) := by simpa using (List.mem_filter.1 ha).2
        rcases List.mem_cons.1 hb with rfl | hb
        · exact q1
        · have : lv (F n) < lv (F b) := by simpa using (List.mem_filter.1 hb).2
          omega
      · intro a ha
        rcases List.mem_append.1 ha with ha | ha
        · exact up a (h.rep a (List.mem_filter.1 ha).1)
        · rcases List.mem_cons.1 ha with rfl | ha
          · refine ⟨by omega, fun q hq e => ?_⟩
            obtain ⟨b, hb, e2⟩ := h.all q hq
            exact c ⟨b, hb, by rw [e2, e]⟩
          · exact up a (h.rep a (List.mem_filter.1 ha).1)
      · intro p hp
        rcases Nat.lt_or_ge p n with g | g
        · obtain ⟨b, hb, e⟩ := h.all p g
          rcases Int.lt_trichotomy (lv (F b)) (lv (F n)) with q | q | q
          · exact ⟨b, List.mem_append_left _ (List.mem_filter.2 ⟨hb, by simpa using q⟩), e⟩
          · exact absurd ⟨b, hb, lv_eq (hN b (by have := (h.rep b hb).1; omega)) (hN n (by omega)) q⟩ c
          · exact ⟨b, List.mem_append_right _ (List.mem_cons_of_mem _ (List.mem_filter.2 ⟨hb, by simpa using q⟩)), e⟩
        · rw [show p = n from by omega]
          exact ⟨n, List.mem_append_right _ (by simp), rfl⟩
theorem hull_ex {F : Nat → Pt} {n : Nat} (hn : 0 < n) (hN : ∀ i, i < n → nr (F i)) : ∃ H, HullIs F n H := by
  obtain ⟨o, h⟩ := ord_ex F n hN
  exact ⟨_, corners_ok h hn⟩
section
variable {F : Nat → Pt} {n : Nat} {H : List Nat}
theorem HullIs.lt (h : HullIs F n H) {j : Nat} (hj : j < H.length) : H.getD j 0 < n := (h.rep j hj).1
theorem HullIs.lt' (h : HullIs F n H) {j : Nat} : H.getD (j % H.length) 0 < n := h.lt (Nat.mod_lt _ h.ne)
/-- With three corners or more each is a left turn. -/
theorem HullIs.strict (hN : ∀ i, i < n → nr (F i)) (h : HullIs F n H) (h3 : 3 ≤ H.length) (j : Nat) (hj : j < H.length) : 0 < trn (F (H.getD j 0)) (F (H.getD ((j + 1) % H.length) 0)) (F (H.getD ((j + 2) % H.length) 0)) := by
  have hm := Nat.mod_lt (j + 1) h.ne
  have e1 := h.edge (by omega) j hj
  have e2 := h.edge (by omega) _ hm
  rw [Nat.mod_add_mod, show j + 1 + 1 = j + 2 from rfl] at e2
  have p1 := e1.2 _ (h.lt' (j := j + 2))
  have p2 := e2.2 _ (h.lt hj)
  rcases Int.lt_or_eq_of_le p1.1 with c | c
  · exact c
  · exfalso
    have q1 := p1.2 c.symm
    have q2 := p2.2 (by rw [← trn_turn]; exact c.symm)
    have n1 := lv_eq (hN _ (h.lt hj)) (hN _ (h.lt' (j := j + 1)))
    have hne := e1.1
    have hac : F (H.getD ((j + 2) % H.length) 0) = F (H.getD j 0) := by
      refine lv_eq (hN _ h.lt') (hN _ (h.lt hj)) ?_
      rcases q1 with q1 | q1 <;> rcases q2 with q2 | q2
      · have := n1 (by omega); exact absurd this hne
      · omega
      · omega
      · have := n1 (by omega); exact absurd this hne
    have per : ∀ i, F (H.getD ((j + i + 2) % H.length) 0) = F (H.getD ((j + i) % H.length) 0) := fun i => by
      induction i with
      | zero => show F (H.getD ((j + 2) % H.length) 0) = F (H.getD (j % H.length) 0); rw [Nat.mod_eq_of_lt hj]; exact hac
      | succ i ih =>
        have a := h.next hN (by omega) _ (Nat.mod_lt (j + i + 2) h.ne)
        have b := h.next hN (by omega) _ (Nat.mod_lt (j + i) h.ne)
        rw [ih, b, Nat.mod_add_mod, Nat.mod_add_mod] at a
        rw [show j + (i + 1) + 2 = j + i + 2 + 1 from by omega, show j + (i + 1) = j + i + 1 from by omega, Int.ofNat_inj.1 a]
    have := per (H.length - j)
    rw [show j + (H.length - j) = H.length from by omega, Nat.mod_self, Nat.add_mod_left, Nat.mod_eq_of_lt (by omega)] at this
    exact h.dist 2 (by omega) (by omega) this
theorem far_id (a b c p : Pt) : (lv b - lv a) * trn b c p = (lv c - lv b) * trn a b p - (lv p - lv b) * trn b c a := by unfold lv trn; grind
theorem near_id (c a b p : Pt) : (lv b - lv a) * trn c a p = (lv p - lv a) * trn c a b + (lv a - lv c) * trn a b p := by unfold lv trn; grind
theorem low_id (a b c p : Pt) : (lv p - lv a) * trn a b c = (lv b - lv a) * trn c a p + (lv c - lv a) * trn a b p := by unfold lv trn; grind
/-- A place that lies to the left of all edges may be added: the corners stay. -/
theorem HullIs.add {G : Nat → Pt} (hG : ∀ i, i < n → G i = F i) (hN : ∀ i, i < n + 1 → nr (G i)) (h : HullIs F n H) (h3 : 3 ≤ H.length)
    (hl : ∀ j, j < H.length → 0 ≤ trn (F (H.getD j 0)) (F (H.getD ((j + 1) % H.length) 0)) (G n)) : HullIs G (n + 1) H := by
  have hNF : ∀ i, i < n → nr (F i) := fun i hi => by rw [← hG i hi]; exact hN i (by omega)
  have gH : ∀ j, j < H.length → G (H.getD j 0) = F (H.getD j 0) := fun j hj => hG _ (h.lt hj)
  have gM : ∀ j, G (H.getD (j % H.length) 0) = F (H.getD (j % H.length) 0) := fun j => hG _ h.lt'
  have low : lv (F (H.getD 0 0)) ≤ lv (G n) := by
    have hm := h.ne
    have s := h.strict hNF h3 (H.length - 1) (by omega)
    rw [show H.length - 1 + 1 = H.length from by omega, Nat.mod_self, show H.length - 1 + 2 = H.length + 1 from by omega, Nat.add_mod_left, Nat.mod_eq_of_lt (a := 1) (by omega), trn_turn] at s
    have e0 := hl 0 (by omega)
    rw [Nat.mod_eq_of_lt (by omega)] at e0
    have e1 := hl (H.length - 1) (by omega)
    rw [show H.length - 1 + 1 = H.length from by omega, Nat.mod_self] at e1
    have id := low_id (F (H.getD 0 0)) (F (H.getD 1 0)) (F (H.getD (H.length - 1) 0)) (G n)
    have a := Int.mul_nonneg (show 0 ≤ lv (F (H.getD 1 0)) - lv (F (H.getD 0 0)) by have := h.low _ (h.lt (show 1 < H.length by omega)); omega) e1
    have b := Int.mul_nonneg (show 0 ≤ lv (F (H.getD (H.length - 1) 0)) - lv (F (H.getD 0 0)) by have := h.low _ (h.lt (show H.length - 1 < H.length by omega)); omega) (by rw [Nat.zero_add] at e0; exact e0)
    rcases Int.lt_or_le (lv (G n)) (lv (F (H.getD 0 0))) with c | c
    · have := Int.mul_neg_of_neg_of_pos (show lv (G n) - lv (F (H.getD 0 0)) < 0 by omega) s
      omega
    · exact c
  refine ⟨h.ne, fun j hj => ?_, fun p hp => ?_, fun h1 => by omega, fun _ j hj => ?_, fun j h0 hj => ?_⟩
  · have := h.rep j hj
    refine ⟨by have := this.1; omega, fun q hq => ?_⟩
    rw [hG q (by have := this.1; omega), gH j hj]
    exact this.2 q hq
  · rw [gH 0 h.ne]
    rcases Nat.lt_or_ge p n with c | c
    · rw [hG p c]; exact h.low p c
    · rw [show p = n from by omega]; exact low
  · have e := h.edge (by omega) j hj
    unfold E
    rw [gH j hj, gM]
    refine ⟨e.1, fun p hp => ?_⟩
    rcases Nat.lt_or_ge p n with c | c
    · rw [hG p c]; exact e.2 p c
    · rw [show p = n from by omega]
      refine ⟨hl j hj, fun h0 => ?_⟩
      have s1 := h.strict hNF h3 j hj
      have l1 := hl _ (Nat.mod_lt (j + 1) h.ne)
      rw [Nat.mod_add_mod] at l1
      have i1 := far_id (F (H.getD j 0)) (F (H.getD ((j + 1) % H.length) 0)) (F (H.getD ((j + 2) % H.length) 0)) (G n)
      have hm1 := Nat.mod_lt (j + H.length - 1) h.ne
      have s0 := h.strict hNF h3 _ hm1
      have l0 := hl _ hm1
      rw [Nat.mod_add_mod, show j + H.length - 1 + 1 = j + H.length from by omega, Nat.add_mod_right, Nat.mod_eq_of_lt hj] at s0 l0
      rw [Nat.mod_add_mod, show j + H.length - 1 + 2 = j + 1 + H.length from by omega, Nat.add_mod_right] at s0
      have i0 := near_id (F (H.getD ((j + H.length - 1) % H.length) 0)) (F (H.getD j 0)) (F (H.getD ((j + 1) % H.length) 0)) (G n)
      rw [h0, Int.mul_zero] at i1 i0
      rw [trn_turn] at s1
      generalize F (H.getD j 0) = A at *
      generalize F (H.getD ((j + 1) % H.length) 0) = B at *
      generalize F (H.getD ((j + 2) % H.length) 0) = C at *
      generalize F (H.getD ((j + H.length - 1) % H.length) 0) = Z at *
      generalize G n = P at *
      generalize trn B C A = x at *
      generalize trn B C P = y at *
      generalize trn Z A B = u at *
      generalize trn Z A P = v at *
      rcases Int.lt_trichotomy (lv A) (lv B) with g | g | g
      · left
        constructor
        · rcases Int.lt_or_le (lv P) (lv A) with k | k
          · have := Int.mul_neg_of_neg_of_pos (show lv P - lv A < 0 by omega) s0
            have := Int.mul_nonneg (show 0 ≤ lv B - lv A by omega) l0
            omega
          · exact k
        · rcases Int.lt_or_le (lv B) (lv P) with k | k
          · have := Int.mul_pos (show 0 < lv P - lv B by omega) s1
            have := Int.mul_nonneg (show 0 ≤ lv B - lv A by omega) l1
            omega
          · exact k
      · have e3 : lv P = lv A := by
          have z : lv B - lv A = 0 := by omega
          rw [z, Int.zero_mul] at i0
          rcases Int.lt_trichotomy (lv P - lv A) 0 with k | k | k
          · have := Int.mul_neg_of_neg_of_pos k s0; omega
          · omega
          · have := Int.mul_pos k s0; omega
        left; omega
      · right
        constructor
        · rcases Int.lt_or_le (lv P) (lv B) with k | k
          · have := Int.mul_neg_of_neg_of_pos (show lv P - lv B < 0 by omega) s1
            have := Int.mul_nonneg (show 0 ≤ lv A - lv B by omega) l1
            have e : (lv B - lv A) * y = - ((lv A - lv B) * y) := by rw [← Int.neg_mul]; congr 1; omega
            omega
          · exact k
        · rcases Int.lt_or_le (lv A) (lv P) with k | k
          · have := Int.mul_pos (show 0 < lv P - lv A by omega) s0
            have := Int.mul_nonneg (show 0 ≤ lv A - lv B by omega) l0
            have e : (lv B - lv A) * v = - ((lv A - lv B) * v) := by rw [← Int.neg_mul]; congr 1; omega
            omega
          · exact k
  · rw [gH j hj, gH 0 h.ne]
    exact h.dist j h0 hj
/-- A place that stands on the way between a and b. -/
def Bt (a b p : Pt) : Prop := trn a b p = 0 ∧ min a.1 b.1 ≤ p.1 ∧ p.1 ≤ max a.1 b.1 ∧ min a.2 b.2 ≤ p.2 ∧ p.2 ≤ max a.2 b.2
theorem bt_lv {a b p : Pt} (ha : nr a) (hb : nr b) (hp : nr p) (h : Bt a b p) : (lv a ≤ lv p ∧ lv p ≤ lv b) ∨ (lv b ≤ lv p ∧ lv p ≤ lv a) := by
  obtain ⟨h0, h1, h2, h3, h4⟩ := h
  unfold trn at h0
  unfold lv
  have key : ∀ c : Int, c ≠ 0 → ∀ x : Int, c * x = 0 → x = 0 := fun c hc x hx => by
    rcases Int.mul_eq_zero.1 hx with h | h
    · exact absurd h hc
    · exact h
  by_cases e : a.1 = b.1
  · omega
  · by_cases e1 : p.1 = a.1
    · have := key (b.1 - a.1) (by omega) (p.2 - a.2) (by rw [e1, Int.sub_self, Int.mul_zero] at h0; omega)
      omega
    · by_cases e2 : p.1 = b.1
      · have := key (b.1 - a.1) (by omega) (p.2 - b.2) (by rw [e2] at h0; grind)
        omega
      · unfold nr at ha hb hp
        omega
theorem pos_cut {c x : Int} (hc : 0 < c) (h : 0 ≤ c * x) : 0 ≤ x := Int.nonneg_of_mul_nonneg_right h hc
theorem bt_up {a b p : Pt} (ha : nr a) (hb : nr b) (hp : nr p) (h0 : trn a b p = 0) (h : lv a ≤ lv p ∧ lv p ≤ lv b) : Bt a b p := by
  refine ⟨h0, ?_⟩
  unfold trn at h0
  unfold lv at h
  unfold nr at ha hb hp
  by_cases e : a.1 = b.1
  · omega
  · have hx : 0 < b.1 - a.1 := by omega
    have x0 : 0 ≤ p.1 - a.1 := by omega
    have x1 : 0 ≤ b.1 - p.1 := by omega
    have e0 : (b.1 - a.1) * (p.2 - a.2) = (b.2 - a.2) * (p.1 - a.1) := by omega
    have e1 : (b.1 - a.1) * (b.2 - p.2) = (b.2 - a.2) * (b.1 - p.1) := by grind
    rcases Int.le_total a.2 b.2 with g | g
    · have k0 := pos_cut hx (by rw [e0]; exact Int.mul_nonneg (by omega) x0)
      have k1 := pos_cut hx (by rw [e1]; exact Int.mul_nonneg (by omega) x1)
      omega
    · have k0 := pos_cut hx (x := a.2 - p.2) (by
        have := Int.mul_nonneg (show 0 ≤ a.2 - b.2 by omega) x0
        grind)
      have k1 := pos_cut hx (x := p.2 - b.2) (by
        have := Int.mul_nonneg (show 0 ≤ a.2 - b.2 by omega) x1
        grind)
      omega
theorem bt_of {a b p : Pt} (ha : nr a) (hb : nr b) (hp : nr p) (h0 : trn a b p = 0) (h : (lv a ≤ lv p ∧ lv p ≤ lv b) ∨ (lv b ≤ lv p ∧ lv p ≤ lv a)) : Bt a b p := by
  rcases h with h | h
  · exact bt_up ha hb hp h0 h
  · have := bt_up hb ha hp (by rw [trn_flip, h0]; rfl) h
    obtain ⟨_, h1, h2, h3, h4⟩ := this
    exact ⟨h0, by omega, by omega, by omega, by omega⟩
/-- The corners are at the same positions. -/
def Same (F G : Nat → Pt) (H K : List Nat) : Prop := H.length = K.length ∧ ∀ j, j < H.length → F (H.getD j 0) = G (K.getD j 0)
theorem has3 {G : Nat → Pt} {K : List Nat} (hG : ∀ i, i < n → G i = F i) (hN : ∀ i, i < n + 1 → nr (G i)) (h : HullIs F n H) (k : HullIs G (n + 1) K) (h3 : 3 ≤ H.length) :
    (∀ j, j < H.length → 0 ≤ trn (F (H.getD j 0)) (F (H.getD ((j + 1) % H.length) 0)) (G n)) ↔ Same F G H K := by
  refine ⟨fun hl => ?_, fun ⟨e1, e2⟩ j hj => ?_⟩
  · have := (h.add hG hN h3 hl).uniq hN k
    subst this
    exact ⟨rfl, fun j hj => (hG _ (h.lt hj)).symm⟩
  · rw [e2 j hj, e2 _ (Nat.mod_lt _ h.ne), e1]
    exact ((k.edge (by omega) j (by omega)).2 n (by omega)).1
theorem has12 {G : Nat → Pt} {K : List Nat} (hG : ∀ i, i < n → G i = F i) (hN : ∀ i, i < n + 1 → nr (G i)) (h : HullIs F n H) (k : HullIs G (n + 1) K) (h3 : H.length < 3) :
    Bt (F (H.getD 0 0)) (F (H.getD (H.length - 1) 0)) (G n) ↔ Same F G H K := by
  have h1 := h.ne
  have gH : ∀ j, j < H.length → G (H.getD j 0) = F (H.getD j 0) := fun j hj => hG _ (h.lt hj)
  have hR : ∀ j, j < H.length → Rep G (n + 1) (H.getD j 0) := fun j hj => by
    have := h.rep j hj
    refine ⟨by have := this.1; omega, fun q hq => ?_⟩
    rw [hG q (by have := this.1; omega), gH j hj]
    exact this.2 q hq
  have hn0 : nr (F (H.getD 0 0)) := by rw [← gH 0 h1]; exact hN _ (hR 0 h1).1
  have hnl : nr (F (H.getD (H.length - 1) 0)) := by rw [← gH _ (by omega)]; exact hN _ (hR _ (by omega)).1
  have hnP := hN n (by omega)
  by_cases hc : H.length = 1
  · rw [hc]
    refine ⟨fun hb => ?_, fun ⟨e1, e2⟩ => ?_⟩
    · have hP : G n = F (H.getD 0 0) := by
        obtain ⟨_, q1, q2, q3, q4⟩ := hb
        simp only [Nat.sub_self] at q1 q2 q3 q4
        exact Prod.ext (by omega) (by omega)
      have hall : ∀ p, p < n + 1 → G p = G (H.getD 0 0) := fun p hp => by
        rw [gH 0 h1]
        rcases Nat.lt_or_ge p n with c | c
        · rw [hG p c]; exact h.one hc p c
        · rw [show p = n from by omega]; exact hP
      have : HullIs G (n + 1) H := ⟨h1, hR, fun p hp => by rw [hall p hp]; exact Int.le_refl _, fun _ => hall, fun h2 => by omega, fun j a b => by omega⟩
      have := this.uniq hN k
      subst this
      exact ⟨rfl, fun j hj => (gH j hj).symm⟩
    · have := k.one (by omega) n (by omega)
      rw [← e2 0 h1] at this
      rw [this]
      unfold Bt trn
      refine ⟨by simp only [Nat.sub_self]; grind, ?_⟩
      simp only [Nat.sub_self]
      omega
  · have h2 : H.length = 2 := by omega
    rw [h2, show 2 - 1 = 1 from rfl] at hnl ⊢
    have e01 := h.edge (by omega) 0 h1
    have e10 := h.edge (by omega) 1 (by omega)
    rw [h2] at e01 e10
    simp only [Nat.zero_add, Nat.mod_self, show 1 % 2 = 1 from rfl, show 1 + 1 = 2 from rfl] at e01 e10
    refine ⟨fun hb => ?_, fun ⟨e1, e2⟩ => ?_⟩
    · have lb := bt_lv hn0 hnl hnP hb
      have l01 := h.low _ (h.lt (show 1 < H.length by omega))
      have up : ∀ j, j < 2 → E G (n + 1) (H.getD j 0) (H.getD ((j + 1) % 2) 0) := fun j hj => by
        rcases (show j = 0 ∨ j = 1 from by omega) with rfl | rfl
        · simp only [Nat.zero_add, show 1 % 2 = 1 from rfl]
          unfold E
          rw [gH 0 h1, gH 1 (by omega)]
          refine ⟨e01.1, fun p hp => ?_⟩
          rcases Nat.lt_or_ge p n with c | c
          · rw [hG p c]; exact e01.2 p c
          · rw [show p = n from by omega]
            exact ⟨by rw [hb.1]; exact Int.le_refl _, fun _ => lb⟩
        · simp only [show 1 + 1 = 2 from rfl, Nat.mod_self]
          unfold E
          rw [gH 0 h1, gH 1 (by omega)]
          refine ⟨e10.1, fun p hp => ?_⟩
          rcases Nat.lt_or_ge p n with c | c
          · rw [hG p c]; exact e10.2 p c
          · rw [show p = n from by omega]
            exact ⟨by rw [trn_flip, hb.1]; exact Int.le_refl _, fun _ => by omega⟩
      have : HullIs G (n + 1) H := by
        refine ⟨h1, hR, fun p hp => ?_, fun _ => by omega, fun _ j hj => ?_, fun j a b => ?_⟩
        · rw [gH 0 h1]
          rcases Nat.lt_or_ge p n with c | c
          · rw [hG p c]; exact h.low p c
          · rw [show p = n from by omega]; omega
        · rw [h2] at hj ⊢; exact up j hj
        · rw [gH j b, gH 0 h1]; exact h.dist j a b
      have := this.uniq hN k
      subst this
      exact ⟨rfl, fun j hj => (gH j hj).symm⟩
    · have k01 := (k.edge (by omega) 0 (by omega)).2 n (by omega)
      have k10 := (k.edge (by omega) 1 (by omega)).2 n (by omega)
      rw [← e1, h2] at k01 k10
      simp only [Nat.zero_add, Nat.mod_self, show 1 % 2 = 1 from rfl, show 1 + 1 = 2 from rfl] at k01 k10
      rw [← e2 0 h1, ← e2 1 (by omega)] at k01 k10
      rw [trn_flip] at k10
      have z : trn (F (H.getD 0 0)) (F (H.getD 1 0)) (G n) = 0 := by omega
      exact bt_of hn0 hnl hnP z (k01.2 z)
end
/-- Twice the area by the edges. -/
def det (a b : Pt) : Int := a.1 * b.2 - a.2 * b.1
def shoe (F : Nat → Pt) (H : List Nat) : Nat → Int
  | 0 => 0
  | k + 1 => shoe F H k + det (F (H.getD k 0)) (F (H.getD ((k + 1) % H.length) 0))
/-- Twice the area by the triangles from the first corner. -/
def fan (F : Nat → Pt) (H : List Nat) : Nat → Int
  | 0 => 0
  | 1 => 0
  | 2 => 0
  | k + 3 => fan F H (k + 2) + crs (F (H.getD 0 0)) (F (H.getD (k + 1) 0)) (F (H.getD (k + 2) 0))
theorem shoe_fan {F : Nat → Pt} {H : List Nat} : ∀ k, k + 2 ≤ H.length → fan F H (k + 2) = shoe F H (k + 1) + det (F (H.getD (k + 1) 0)) (F (H.getD 0 0))
  | 0, h => by
    show (0 : Int) = 0 + det _ _ + det _ _
    rw [Nat.mod_eq_of_lt (show 0 + 1 < H.length by omega)]
    unfold det
    grind
  | k + 1, h => by
    show fan F H (k + 2) + _ = shoe F H (k + 1) + det _ _ + det _ _
    rw [shoe_fan k (by omega), Nat.mod_eq_of_lt (show k + 1 + 1 < H.length by omega)]
    unfold det crs
    grind
theorem area_eq {F : Nat → Pt} {H : List Nat} (h : 0 < H.length) : shoe F H H.length = fan F H H.length := by
  rcases Nat.lt_or_ge H.length 2 with c | c
  · have : H.length = 1 := by omega
    have e : ∀ m, m = 1 → shoe F H m = fan F H m := fun m hm => by
      subst hm
      show 0 + det _ _ = (0 : Int)
      rw [this]
      unfold det
      simp only [Nat.zero_add, Nat.mod_self]
      grind
    exact e _ this
  · obtain ⟨k, hk⟩ : ∃ k, H.length = k + 2 := ⟨H.length - 2, by omega⟩
    have e := shoe_fan (F := F) (H := H) k (by omega)
    have : ∀ m, m = k + 2 → shoe F H m = fan F H m := fun m hm => by
      subst hm
      rw [e]
      show shoe F H (k + 1) + det _ _ = _
      rw [← hk, Nat.mod_self]
    exact this _ hk
/-- The point at a place. -/
def ptF (l : List Int) (i : Nat) : Pt := (l.getD (i * 3) 0, l.getD (i * 3 + 1) 0)
/-- The chain over the first u places of an order. -/
def chTo (T : Nat → Nat → Nat → Int) (o : List Nat) (u : Nat) : List Nat := (o.take u).foldl (fun st i => i :: pop T i st) []
theorem chTo_0 (T : Nat → Nat → Nat → Int) (o : List Nat) : chTo T o 0 = [] := rfl
theorem chTo_s (T : Nat → Nat → Nat → Int) {o : List Nat} {u : Nat} (h : u < o.length) : chTo T o (u + 1) = o.getD u 0 :: pop T (o.getD u 0) (chTo T o u) := by
  unfold chTo
  rw [List.take_add_one, List.foldl_append, gE _ _ h, List.getElem?_eq_getElem h]
  rfl
theorem chTo_end (T : Nat → Nat → Nat → Int) (o : List Nat) : chTo T o o.length = chain T o := by unfold chTo chain; rw [List.take_length]
theorem pop_mem {T : Nat → Nat → Nat → Int} {i : Nat} : ∀ (st : List Nat) (x : Nat), x ∈ pop T i st → x ∈ st
  | [], x, h => h
  | [_], x, h => h
  | u :: s :: r, x, h => by
    rw [pop] at h
    split at h
    · exact List.mem_cons_of_mem _ (pop_mem (s :: r) x h)
    · exact h
theorem pop_len {T : Nat → Nat → Nat → Int} {i : Nat} : ∀ (st : List Nat), (pop T i st).length ≤ st.length
  | [] => Nat.le_refl _
  | [_] => Nat.le_refl _
  | u :: s :: r => by
    rw [pop]
    split
    · have := pop_len (T := T) (i := i) (s :: r); simp at *; omega
    · exact Nat.le_refl _
theorem pop_short {T : Nat → Nat → Nat → Int} {i : Nat} {st : List Nat} (h : st.length ≤ 1) : pop T i st = st := by
  match st, h with
  | [], _ => rfl
  | [_], _ => rfl
theorem pop_yes {T : Nat → Nat → Nat → Int} {i u s : Nat} {r : List Nat} (h : T s u i ≤ 0) : pop T i (u :: s :: r) = pop T i (s :: r) := by rw [pop, if_pos h]
theorem pop_no {T : Nat → Nat → Nat → Int} {i u s : Nat} {r : List Nat} (h : ¬ T s u i ≤ 0) : pop T i (u :: s :: r) = u :: s :: r := by rw [pop, if_neg h]
/-- Places as numbers. -/
def natH (r : List Nat) : List Int := r.map fun i : Nat => (i : Int)
theorem natH_len (r : List Nat) : (natH r).length = r.length := by unfold natH; simp
theorem natH_at (r : List Nat) (u : Nat) : (natH r).getD u 0 = ((r.getD u 0 : Nat) : Int) := by
  unfold natH
  rw [List.getD_eq_getElem?_getD, List.getElem?_map, List.getD_eq_getElem?_getD]
  cases r[u]? <;> rfl
theorem natH_app (r s : List Nat) : natH (r ++ s) = natH r ++ natH s := by unfold natH; simp
/-- A coordinate within the bounds. -/
def okC (z : Int) : Prop := -1048576 ≤ z ∧ z ≤ 1048576
theorem chTo_len (T : Nat → Nat → Nat → Int) (o : List Nat) : ∀ u, u ≤ o.length → (chTo T o u).length ≤ u
  | 0, _ => Nat.le_refl _
  | u + 1, h => by
    have := chTo_len T o u (by omega)
    rw [chTo_s _ (by omega)]
    have h2 := pop_len (T := T) (i := o.getD u 0) (chTo T o u)
    simp only [List.length_cons]
    omega
theorem chain_len (T : Nat → Nat → Nat → Int) (o : List Nat) : (chain T o).length ≤ o.length := by rw [← chTo_end]; exact chTo_len T o _ (Nat.le_refl _)
theorem filter_two (p q : Nat → Bool) (hpq : ∀ x, ¬ (p x = true ∧ q x = true)) : ∀ o : List Nat, (o.filter p).length + (o.filter q).length ≤ o.length
  | [] => Nat.le_refl _
  | x :: o => by
    have := filter_two p q hpq o
    have h := hpq x
    rw [List.filter_cons, List.filter_cons]
    cases h1 : p x <;> cases h2 : q x <;> simp [h1, h2] at h ⊢ <;> omega
theorem ord_ex2 (F : Nat → Pt) : ∀ n, (∀ i, i < n → nr (F i)) → ∃ o, OrdIs F n o ∧ o.length ≤ n
  | 0, _ => ⟨[], ⟨List.Pairwise.nil, fun a h => absurd h (by simp), fun p h => absurd h (by omega)⟩, Nat.le_refl _⟩
  | n + 1, hN => by
    obtain ⟨o, h, hlen⟩ := ord_ex2 F n fun i hi => hN i (by omega)
    have up : ∀ a, Rep F n a → Rep F (n + 1) a := fun a ⟨h1, h2⟩ => ⟨by omega, h2⟩
    by_cases c : ∃ a ∈ o, F a = F n
    · refine ⟨o, ⟨h.srt, fun a ha => up a (h.rep a ha), fun p hp => ?_⟩, by omega⟩
      rcases Nat.lt_or_ge p n with g | g
      · exact h.all p g
      · rw [show p = n from by omega]; exact c
    · refine ⟨o.filter (fun a => decide (lv (F a) < lv (F n))) ++ n :: o.filter (fun a => decide (lv (F n) < lv (F a))), ⟨?_, ?_, ?_⟩, ?_⟩
      · rw [List.pairwise_append]
        refine ⟨h.srt.filter _, List.pairwise_cons.2 ⟨fun a ha => by simpa using (List.mem_filter.1 ha).2, h.srt.filter _⟩, fun a ha b hb => ?_⟩
        have q1 : lv (F a) < lv (F n) := by simpa using (List.mem_filter.1 ha).2
        rcases List.mem_cons.1 hb with rfl | hb
        · exact q1
        · have : lv (F n) < lv (F b) := by simpa using (List.mem_filter.1 hb).2
          omega
      · intro a ha
        rcases List.mem_append.1 ha with ha | ha
        · exact up a (h.rep a (List.mem_filter.1 ha).1)
        · rcases List.mem_cons.1 ha with rfl | ha
          · refine ⟨by omega, fun q hq e => ?_⟩
            obtain ⟨b, hb, e2⟩ := h.all q hq
            exact c ⟨b, hb, by rw [e2, e]⟩
          · exact up a (h.rep a (List.mem_filter.1 ha).1)
      · intro p hp
        rcases Nat.lt_or_ge p n with g | g
        · obtain ⟨b, hb, e⟩ := h.all p g
          rcases Int.lt_trichotomy (lv (F b)) (lv (F n)) with q | q | q
          · exact ⟨b, List.mem_append_left _ (List.mem_filter.2 ⟨hb, by simpa using q⟩), e⟩
          · exact absurd ⟨b, hb, lv_eq (hN b (by have := (h.rep b hb).1; omega)) (hN n (by omega)) q⟩ c
          · exact ⟨b, List.mem_append_right _ (List.mem_cons_of_mem _ (List.mem_filter.2 ⟨hb, by simpa using q⟩)), e⟩
        · rw [show p = n from by omega]
          exact ⟨n, List.mem_append_right _ (by simp), rfl⟩
      · have := filter_two (fun a => decide (lv (F a) < lv (F n))) (fun a => decide (lv (F n) < lv (F a))) (fun x hx => by simp at hx; omega) o
        simp only [List.length_append, List.length_cons]
        omega
theorem hull_ex2 {F : Nat → Pt} {n : Nat} (hn : 0 < n) (hN : ∀ i, i < n → nr (F i)) : ∃ H, HullIs F n H ∧ H.length ≤ 2 * n := by
  obtain ⟨o, h, hl⟩ := ord_ex2 F n hN
  refine ⟨_, corners_ok h hn, ?_⟩
  unfold corners
  split
  · omega
  · have h1 := chain_len (turns F) o
    have h2 := chain_len (turns F) o.reverse
    simp only [List.length_append, List.length_dropLast, List.length_reverse] at *
    omega
theorem fst_0 (F : Nat → Pt) : fst F 0 = 0 := rfl
theorem fst_s (F : Nat → Pt) (k : Nat) : (lx (F k) (F (fst F k)) → fst F (k + 1) = k) ∧ (¬ lx (F k) (F (fst F k)) → fst F (k + 1) = fst F k) :=
  ⟨fun h => by rw [fst, if_pos h], fun h => by rw [fst, if_neg h]⟩
theorem fst_lt (F : Nat → Pt) {n : Nat} (hn : 0 < n) : ∀ k, k ≤ n → fst F k < n
  | 0, _ => hn
  | k + 1, h => by
    have := fst_lt F hn k (by omega)
    rw [fst]
    split <;> omega
theorem nxt_0 (F : Nat → Pt) (now : Pt) : nxt F now 0 = -1 := rfl
theorem nxt_s (F : Nat → Pt) (now : Pt) (k : Nat) : nxt F now (k + 1) = nstep F now (nxt F now k) k := rfl
theorem nstep_same {F : Nat → Pt} {now : Pt} {nx : Int} {i : Nat} (h : F i = now) : nstep F now nx i = nx := by unfold nstep; rw [if_pos h]
theorem nstep_none {F : Nat → Pt} {now : Pt} {nx : Int} {i : Nat} (h : F i ≠ now) (h2 : nx < 0) : nstep F now nx i = i := by unfold nstep; rw [if_neg h, if_pos h2]
theorem nstep_yes {F : Nat → Pt} {now : Pt} {nx : Int} {i : Nat} (h : F i ≠ now) (h2 : ¬ nx < 0) (h3 : crs now (F nx.toNat) (F i) < 0 ∨ (crs now (F nx.toNat) (F i) = 0 ∧ dst now (F nx.toNat) < dst now (F i))) : nstep F now nx i = i := by unfold nstep; rw [if_neg h, if_neg h2, if_pos h3]
theorem nstep_no {F : Nat → Pt} {now : Pt} {nx : Int} {i : Nat} (h : F i ≠ now) (h2 : ¬ nx < 0) (h3 : ¬ (crs now (F nx.toNat) (F i) < 0 ∨ (crs now (F nx.toNat) (F i) = 0 ∧ dst now (F nx.toNat) < dst now (F i)))) : nstep F now nx i = nx := by unfold nstep; rw [if_neg h, if_neg h2, if_neg h3]
theorem lx_pt (a b c d : Int) : lx (a, b) (c, d) ↔ a < c ∨ (a = c ∧ b < d) := Iff.rfl
theorem chain_pos (T : Nat → Nat → Nat → Int) {o : List Nat} (h : 0 < o.length) : 0 < (chain T o).length := by
  obtain ⟨u, hu⟩ : ∃ u, o.length = u + 1 := ⟨o.length - 1, by omega⟩
  rw [← chTo_end, hu, chTo_s _ (by omega)]
  simp
theorem natH_last {r : List Nat} {a : Nat} (h : r.length = a + 1) : ∃ x : Nat, natH r = natH r.dropLast ++ [(x : Int)] := by
  refine ⟨r.getLast (by intro e; rw [e] at h; simp at h), ?_⟩
  have : r = r.dropLast ++ [r.getLast (by intro e; rw [e] at h; simp at h)] := (List.dropLast_concat_getLast _).symm
  conv => lhs; rw [this]
  rw [natH_app]; rfl
attribute [irreducible] pop chTo chain corners nxt nstep fst shoe fan trn crs dst lv lx
end Go.Dam.Hull

/-
  Sums of floors of a line with whole slope: the plain part of Pick's law that is about one edge. Conditions: none; nothing here names the program.
-/
namespace Go.Dam.Pick
set_option linter.unusedVariables false
def sumN : Nat → (Nat → Int) → Int
  | 0, _ => 0
  | n + 1, f => sumN n f + f n
theorem sumN_congr {n : Nat} {f g : Nat → Int} (h : ∀ k, k < n → f k = g k) : sumN n f = sumN n g := by
  induction n with
  | zero => rfl
  | succ n ih => rw [sumN, sumN, ih (fun k hk => h k (by omega)), h n (by omega)]
theorem sumN_add (n : Nat) (f g : Nat → Int) : sumN n (fun k => f k + g k) = sumN n f + sumN n g := by
  induction n with
  | zero => rfl
  | succ n ih => rw [sumN, sumN, sumN, ih]; omega
theorem sumN_mul (n : Nat) (c : Int) (f : Nat → Int) : sumN n (fun k => c * f k) = c * sumN n f := by
  induction n with
  | zero => simp [sumN]
  | succ n ih => rw [sumN, sumN, ih, Int.mul_add]
theorem sumN_const (n : Nat) (c : Int) : sumN n (fun _ => c) = n * c := by
  induction n with
  | zero => simp [sumN]
  | succ n ih => rw [sumN, ih, Int.natCast_succ, Int.add_mul]; omega
theorem sumN_neg (n : Nat) (f : Nat → Int) : sumN n (fun k => - f k) = - sumN n f := by
  induction n with
  | zero => rfl
  | succ n ih => rw [sumN, sumN, ih]; omega
theorem sumN_zero {n : Nat} {f : Nat → Int} (h : ∀ k, k < n → f k = 0) : sumN n f = 0 := by
  rw [sumN_congr (g := fun _ => 0) h, sumN_const]; simp
theorem sumN_split (a b : Nat) (f : Nat → Int) : sumN (a + b) f = sumN a f + sumN b (fun k => f (a + k)) := by
  induction b with
  | zero => simp [sumN]
  | succ b ih => rw [← Nat.add_assoc, sumN, sumN, ih]; omega
theorem sumN_shift (n : Nat) (f : Nat → Int) : sumN n (fun k => f (k + 1)) = sumN n f + f n - f 0 := by
  induction n with
  | zero => simp [sumN]
  | succ n ih => rw [sumN, sumN, ih]; omega
theorem sumN_rev (n : Nat) (f : Nat → Int) : sumN n (fun k => f (n - 1 - k)) = sumN n f := by
  induction n with
  | zero => rfl
  | succ n ih =>
    have h1 := sumN_split 1 n (fun k => f (n + 1 - 1 - k))
    rw [show 1 + n = n + 1 by omega] at h1
    rw [h1, sumN, sumN, sumN]
    have h2 : sumN n (fun k => f (n + 1 - 1 - (1 + k))) = sumN n f := by
      rw [← ih]; exact sumN_congr fun k hk => by congr 1; omega
    rw [h2]; simp; omega
/-- One term alone. -/
theorem sumN_one {n i : Nat} {f : Nat → Int} (hi : i < n) (h : ∀ k, k < n → k ≠ i → f k = 0) : sumN n f = f i := by
  induction n with
  | zero => omega
  | succ n ih =>
    rw [sumN]
    by_cases e : i = n
    · subst e; rw [sumN_zero (fun k hk => h k (by omega) (by omega))]; omega
    · rw [ih (by omega) (fun k hk hki => h k (by omega) hki), h n (by omega) (by omega)]; omega
theorem sumN_tele (n : Nat) (f : Nat → Int) : sumN n (fun k => f (k + 1) - f k) = f n - f 0 := by
  induction n with
  | zero => simp [sumN]
  | succ n ih => rw [sumN, ih]; omega
theorem sumN_swap (n m : Nat) (f : Nat → Nat → Int) : sumN n (fun i => sumN m (fun j => f i j)) = sumN m (fun j => sumN n (fun i => f i j)) := by
  induction n with
  | zero => simp only [sumN]; rw [sumN_zero (fun _ _ => rfl)]
  | succ n ih => simp only [sumN]; rw [ih, ← sumN_add]
/-- Is it a multiple? -/
def dv (d : Nat) (z : Int) : Int := if (d : Int) ∣ z then 1 else 0
theorem mult_sum (d : Nat) (hd : 0 < d) : ∀ g : Nat, sumN (g * d) (fun j => dv d j) = g
  | 0 => by simp [sumN]
  | g + 1 => by
    rw [Nat.add_mul, Nat.one_mul, sumN_split, mult_sum d hd g, sumN_one (i := 0) hd]
    · simp [dv]
    · intro k hk hk0
      unfold dv
      rw [if_neg]
      intro h
      have h1 : (d : Int) ∣ (k : Int) := by
        have h2 : ((g * d + k : Nat) : Int) = (d : Int) * (g : Int) + (k : Int) := by rw [Int.natCast_add, Int.natCast_mul, Int.mul_comm]
        rw [h2] at h
        exact (Int.dvd_add_right ⟨(g : Int), rfl⟩).1 h
      have h3 := Int.natCast_dvd_natCast.1 h1
      exact absurd (Nat.le_of_dvd (by omega) h3) (by omega)
theorem dv_sum (d : Nat) (hd : 0 < d) (e : Int) : sumN d (fun k => dv d (e * k)) = Int.gcd d e := by
  obtain ⟨g, hg⟩ : ∃ g, Int.gcd d e = g := ⟨_, rfl⟩
  have hgp : 0 < g := by rw [← hg]; exact Nat.pos_of_ne_zero (fun h => by have := (Int.gcd_eq_zero_iff.1 h).1; omega)
  obtain ⟨d', hd'⟩ : g ∣ d := by have := Int.gcd_dvd_left (a := d) (b := e); rw [hg] at this; exact Int.natCast_dvd_natCast.1 this
  obtain ⟨e', he'⟩ : (g : Int) ∣ e := by have := Int.gcd_dvd_right (a := d) (b := e); rw [hg] at this; exact this
  have hdp : 0 < d' := Nat.pos_of_ne_zero (fun h => by subst h; omega)
  have hco : Int.gcd d' e' = 1 := by
    have h1 : Int.gcd ((g : Int) * d') (g * e') = g * Int.gcd d' e' := by rw [Int.gcd_mul_left]; simp
    rw [← Int.natCast_mul, ← hd', ← he', hg] at h1
    have : g * 1 = g * Int.gcd d' e' := by omega
    exact (Nat.eq_of_mul_eq_mul_left hgp this).symm
  rw [hg]
  have h2 := mult_sum d' hdp g
  rw [← hd'] at h2
  rw [← h2]
  refine sumN_congr fun k hk => ?_
  unfold dv
  have : ((d : Int) ∣ e * k) ↔ ((d' : Int) ∣ (k : Int)) := by
    rw [hd', he', Int.natCast_mul, Int.mul_assoc, Int.mul_dvd_mul_iff_left (by omega)]
    constructor
    · intro h
      have h1 := Int.natAbs_dvd_natAbs.2 h
      rw [Int.natAbs_mul, Int.natAbs_natCast, Int.natAbs_natCast] at h1
      have h2 : Nat.Coprime d' e'.natAbs := by have := hco; unfold Int.gcd at this; rw [Int.natAbs_natCast] at this; exact this
      exact Int.natCast_dvd_natCast.2 (h2.dvd_of_dvd_mul_left h1)
    · intro h; exact Int.dvd_mul_of_dvd_right h
  simp only [this]
theorem neg_floor {d : Nat} (hd : 0 < d) (z : Int) : (-z) / (d : Int) = - (z / d) - 1 + dv d z := by
  have h1 := Int.emod_add_mul_ediv z d
  have h2 := Int.emod_nonneg z (show (d : Int) ≠ 0 by omega)
  have h3 := Int.emod_lt_of_pos z (show (0 : Int) < d by omega)
  unfold dv
  have hd' : (0 : Int) < d := by omega
  by_cases h : (d : Int) ∣ z
  · rw [if_pos h]
    have h4 := Int.emod_eq_zero_of_dvd h
    rw [Int.neg_ediv_of_dvd h]; omega
  · rw [if_neg h]
    have h4 : z % d ≠ 0 := fun e => h (Int.dvd_of_emod_eq_zero e)
    have h5 : -z = (d - z % d) + d * (- (z / d) - 1) := by rw [Int.mul_sub, Int.mul_neg]; omega
    rw [h5, Int.add_mul_ediv_left _ _ (by omega), Int.ediv_eq_zero_of_lt (by omega) (by omega)]; omega
/-- The sum of floors of a line. -/
theorem floor_sum (d : Nat) (hd : 0 < d) (e : Int) : 2 * sumN d (fun k => (e * k) / (d : Int)) = (d - 1) * e - d + Int.gcd d e := by
  have h1 := sumN_shift d (fun k => (e * k) / (d : Int))
  have h2 := sumN_rev d (fun k => (e * ((k + 1 : Nat) : Int)) / (d : Int))
  have h3 : sumN d (fun k => (e * (((d - 1 - k) + 1 : Nat) : Int)) / (d : Int)) = d * e + (- sumN d (fun k => (e * k) / (d : Int)) - d + Int.gcd d e) := by
    rw [← dv_sum d hd e, ← sumN_const, ← sumN_neg]
    rw [show sumN d (fun k => -(e * (k : Int) / (d : Int))) - (d : Int) + sumN d (fun k => dv d (e * k)) = sumN d (fun k => -(e * (k : Int) / (d : Int)) + (-1) + dv d (e * k)) by
      rw [sumN_add, sumN_add, sumN_const]; omega]
    rw [← sumN_add]
    refine sumN_congr fun k hk => ?_
    have e1 : e * (((d - 1 - k) + 1 : Nat) : Int) = (- (e * k)) + d * e := by
      have : (((d - 1 - k) + 1 : Nat) : Int) = d - k := by omega
      rw [this, Int.mul_sub, Int.mul_comm e d]; omega
    rw [e1, Int.add_mul_ediv_left _ _ (by omega), neg_floor hd]; omega
  rw [h2] at h3
  rw [h1] at h3
  have h4 : e * ((d : Nat) : Int) / (d : Int) = e := Int.mul_ediv_cancel _ (by omega)
  have h5 : e * ((0 : Nat) : Int) / (d : Int) = 0 := by simp
  rw [h4, h5] at h3
  rw [Int.sub_mul, Int.one_mul]
  omega
end Go.Dam.Pick

/-
  Pick's law for a convex polygon with whole corners, the points counted row by row between the edges. Conditions: none; nothing here names the program.
-/
namespace Go.Dam.Pick
set_option linter.unusedVariables false
section
variable (X Y : Nat → Int)
def dX (j : Nat) : Int := X (j + 1) - X j
def dY (j : Nat) : Int := Y (j + 1) - Y j
/-- Above 0: to the left of an edge. -/
def lf (j : Nat) (x y : Int) : Int := dX X j * (y - Y j) - dY Y j * (x - X j)
def nn (j : Nat) (y : Int) : Int := dX X j * (y - Y j) + dY Y j * X j
structure Poly (m : Nat) : Prop where
  m3 : 3 ≤ m
  per : ∀ j, X (j + m) = X j ∧ Y (j + m) = Y j
  left : ∀ j k, 0 ≤ lf X Y j (X k) (Y k)
  strict : ∀ j k, lf X Y j (X k) (Y k) = 0 → (X k = X j ∧ Y k = Y j) ∨ (X k = X (j + 1) ∧ Y k = Y (j + 1))
  inj : ∀ i j, i < m → j < m → X i = X j → Y i = Y j → i = j
  far : ∀ k, -4000000 ≤ X k ∧ X k ≤ 4000000
/-- Weights of an edge's two ends. -/
theorem dom_id (i j : Nat) (y : Int) : dY Y i * nn X Y j y - dY Y j * nn X Y i y = (Y (i + 1) - y) * lf X Y j (X i) (Y i) + (y - Y i) * lf X Y j (X (i + 1)) (Y (i + 1)) := by
  unfold nn lf dX dY; grind
theorem nn_id (i : Nat) (y : Int) : nn X Y i y = (Y (i + 1) - y) * X i + (y - Y i) * X (i + 1) := by unfold nn dX dY; grind
/-- The rows' bounds, edge by edge. -/
def hiF (y : Int) : Nat → Int
  | 0 => 4000000
  | j + 1 => if 0 < dY Y j then min (hiF y j) (nn X Y j y / dY Y j) else hiF y j
def loF (y : Int) : Nat → Int
  | 0 => -4000000
  | j + 1 => if dY Y j < 0 then max (loF y j) (-(nn X Y j y / - dY Y j)) else loF y j
def bad (y : Int) (j : Nat) : Prop := dY Y j = 0 ∧ nn X Y j y < 0
/-- How many of a row are within. -/
def cnt (m : Nat) (y : Int) : Int := if loF X Y y m ≤ hiF X Y y m then hiF X Y y m - loF X Y y m + 1 else 0
end
section
variable {X Y : Nat → Int} {m : Nat}
theorem Poly.mod (P : Poly X Y m) : ∀ j, X (j % m) = X j ∧ Y (j % m) = Y j := by
  have h : ∀ q r, X (r + q * m) = X r ∧ Y (r + q * m) = Y r := by
    intro q r
    induction q with
    | zero => simp
    | succ q ih => rw [Nat.add_mul, Nat.one_mul, ← Nat.add_assoc, (P.per _).1, (P.per _).2]; exact ih
  intro j
  have := h (j / m) (j % m)
  rw [Nat.mul_comm, Nat.mod_add_div] at this
  exact ⟨this.1.symm, this.2.symm⟩
theorem Poly.inj' (P : Poly X Y m) {a b : Nat} (hx : X a = X b) (hy : Y a = Y b) : a % m = b % m := by
  have hm : 0 < m := by have := P.m3; omega
  refine P.inj _ _ (Nat.mod_lt _ hm) (Nat.mod_lt _ hm) ?_ ?_
  · rw [(P.mod a).1, (P.mod b).1, hx]
  · rw [(P.mod a).2, (P.mod b).2, hy]
theorem Poly.succ (P : Poly X Y m) (a : Nat) : X (a % m + 1) = X (a + 1) ∧ Y (a % m + 1) = Y (a + 1) := by
  have h1 := P.mod (a % m + 1)
  have h2 := P.mod (a + 1)
  have : (a % m + 1) % m = (a + 1) % m := by rw [Nat.add_mod, Nat.mod_mod, ← Nat.add_mod]
  rw [this] at h1
  exact ⟨h1.1.symm.trans h2.1, h1.2.symm.trans h2.2⟩
theorem inj_succ {m i j : Nat} (hi : i < m) (hj : j < m) (h : (i + 1) % m = (j + 1) % m) : i = j := by
  rcases Nat.eq_or_lt_of_le (show i + 1 ≤ m from hi) with e | e <;> rcases Nat.eq_or_lt_of_le (show j + 1 ≤ m from hj) with e' | e'
  · omega
  · rw [e, Nat.mod_self, Nat.mod_eq_of_lt e'] at h; omega
  · rw [e', Nat.mod_self, Nat.mod_eq_of_lt e] at h; omega
  · rw [Nat.mod_eq_of_lt e, Nat.mod_eq_of_lt e'] at h; omega
/-- Up through a row. -/
def Up (Y : Nat → Int) (i : Nat) (y : Int) : Prop := Y i ≤ y ∧ y < Y (i + 1)
def Dn (Y : Nat → Int) (i : Nat) (y : Int) : Prop := Y (i + 1) ≤ y ∧ y < Y i
theorem walk_le (P : Poly X Y m) {y : Int} (h : ∀ j, j < m → Y j ≤ y → Y (j + 1) ≤ y) {k : Nat} (hk : Y k ≤ y) : ∀ t, Y (k + t) ≤ y
  | 0 => hk
  | t + 1 => by
    have ih := walk_le P h hk t
    have hm : 0 < m := by have := P.m3; omega
    have := h ((k + t) % m) (Nat.mod_lt _ hm) (by rw [(P.mod _).2]; exact ih)
    rw [(P.succ _).2] at this
    exact this
theorem walk_gt (P : Poly X Y m) {y : Int} (h : ∀ j, j < m → y < Y j → y < Y (j + 1)) {k : Nat} (hk : y < Y k) : ∀ t, y < Y (k + t)
  | 0 => hk
  | t + 1 => by
    have ih := walk_gt P h hk t
    have hm : 0 < m := by have := P.m3; omega
    have := h ((k + t) % m) (Nat.mod_lt _ hm) (by rw [(P.mod _).2]; exact ih)
    rw [(P.succ _).2] at this
    exact this
theorem reach (P : Poly X Y m) {k k' : Nat} (hk : k < m) : Y (k + (k' + m - k)) = Y k' := by
  rw [show k + (k' + m - k) = k' + m by omega]; exact (P.per k').2
theorem up_ex (P : Poly X Y m) {y : Int} {k k' : Nat} (hk : k < m) (h1 : Y k ≤ y) (h2 : y < Y k') : ∃ i, i < m ∧ Up Y i y := by
  apply Classical.byContradiction
  intro hn
  have := walk_le P (y := y) (fun j hj hy => Int.not_lt.1 fun h => hn ⟨j, hj, hy, h⟩) h1 (k' + m - k)
  rw [reach P hk] at this; omega
theorem dn_ex (P : Poly X Y m) {y : Int} {k k' : Nat} (hk' : k' < m) (h1 : Y k ≤ y) (h2 : y < Y k') : ∃ i, i < m ∧ Dn Y i y := by
  apply Classical.byContradiction
  intro hn
  have := walk_gt P (y := y) (fun j hj hy => Int.not_le.1 fun h => hn ⟨j, hj, h, hy⟩) h2 (k + m - k')
  rw [reach P hk'] at this; omega
theorem up_one (P : Poly X Y m) {y : Int} {i j : Nat} (hi : i < m) (hj : j < m) (h1 : Up Y i y) (h2 : Up Y j y) : i = j := by
  have e1 := dom_id X Y i j y
  have e2 := dom_id X Y j i y
  have a1 := Int.mul_nonneg (a := Y (i + 1) - y) (by have := h1.2; omega) (P.left j i)
  have a2 := Int.mul_nonneg (a := y - Y i) (by have := h1.1; omega) (P.left j (i + 1))
  have a3 := Int.mul_nonneg (a := Y (j + 1) - y) (by have := h2.2; omega) (P.left i j)
  have a4 := Int.mul_nonneg (a := y - Y j) (by have := h2.1; omega) (P.left i (j + 1))
  have z : (Y (i + 1) - y) * lf X Y j (X i) (Y i) = 0 := by omega
  rcases Int.mul_eq_zero.1 z with z | z
  · have := h1.2; omega
  · rcases P.strict _ _ z with ⟨g1, g2⟩ | ⟨g1, g2⟩
    · exact P.inj _ _ hi hj g1 g2
    · have := h1.1; have := h2.2; omega
theorem dn_one (P : Poly X Y m) {y : Int} {i j : Nat} (hi : i < m) (hj : j < m) (h1 : Dn Y i y) (h2 : Dn Y j y) : i = j := by
  have e1 := dom_id X Y i j y
  have e2 := dom_id X Y j i y
  have a1 := Int.mul_nonneg (a := y - Y (i + 1)) (by have := h1.1; omega) (P.left j i)
  have a2 := Int.mul_nonneg (a := Y i - y) (by have := h1.2; omega) (P.left j (i + 1))
  have a3 := Int.mul_nonneg (a := y - Y (j + 1)) (by have := h2.1; omega) (P.left i j)
  have a4 := Int.mul_nonneg (a := Y j - y) (by have := h2.2; omega) (P.left i (j + 1))
  have n1 : (Y (i + 1) - y) * lf X Y j (X i) (Y i) = - ((y - Y (i + 1)) * lf X Y j (X i) (Y i)) := by rw [← Int.neg_mul]; congr 1; omega
  have n2 : (y - Y i) * lf X Y j (X (i + 1)) (Y (i + 1)) = - ((Y i - y) * lf X Y j (X (i + 1)) (Y (i + 1))) := by rw [← Int.neg_mul]; congr 1; omega
  have n3 : (Y (j + 1) - y) * lf X Y i (X j) (Y j) = - ((y - Y (j + 1)) * lf X Y i (X j) (Y j)) := by rw [← Int.neg_mul]; congr 1; omega
  have n4 : (y - Y j) * lf X Y i (X (j + 1)) (Y (j + 1)) = - ((Y j - y) * lf X Y i (X (j + 1)) (Y (j + 1))) := by rw [← Int.neg_mul]; congr 1; omega
  have z : (Y i - y) * lf X Y j (X (i + 1)) (Y (i + 1)) = 0 := by omega
  rcases Int.mul_eq_zero.1 z with z | z
  · have := h1.2; omega
  · rcases P.strict _ _ z with ⟨g1, g2⟩ | ⟨g1, g2⟩
    · have := h1.1; have := h2.2; omega
    · exact inj_succ hi hj (P.inj' g1 g2)
/-- At a row that an edge goes up through (its ends too): that edge is the bound. -/
theorem up_dom (P : Poly X Y m) {y : Int} {i : Nat} (h1 : Y i ≤ y) (h2 : y ≤ Y (i + 1)) (j : Nat) : 0 ≤ dY Y i * nn X Y j y - dY Y j * nn X Y i y := by
  rw [dom_id]
  exact Int.add_nonneg (Int.mul_nonneg (by omega) (P.left j i)) (Int.mul_nonneg (by omega) (P.left j (i + 1)))
theorem dn_dom (P : Poly X Y m) {y : Int} {i : Nat} (h1 : Y (i + 1) ≤ y) (h2 : y ≤ Y i) (j : Nat) : 0 ≤ dY Y j * nn X Y i y - dY Y i * nn X Y j y := by
  have e := dom_id X Y i j y
  have a1 := Int.mul_nonneg (a := y - Y (i + 1)) (by omega) (P.left j i)
  have a2 := Int.mul_nonneg (a := Y i - y) (by omega) (P.left j (i + 1))
  have n1 : (Y (i + 1) - y) * lf X Y j (X i) (Y i) = - ((y - Y (i + 1)) * lf X Y j (X i) (Y i)) := by rw [← Int.neg_mul]; congr 1; omega
  have n2 : (y - Y i) * lf X Y j (X (i + 1)) (Y (i + 1)) = - ((Y i - y) * lf X Y j (X (i + 1)) (Y (i + 1))) := by rw [← Int.neg_mul]; congr 1; omega
  omega
theorem floor_le {a b c d : Int} (hb : 0 < b) (hd : 0 < d) (h : 0 ≤ b * c - d * a) : a / b ≤ c / d := by
  have h1 : b * (a / b) ≤ a := by rw [Int.mul_comm]; exact Int.ediv_mul_le a (by omega)
  rw [Int.le_ediv_iff_mul_le hd]
  have h2 : b * (a / b * d) ≤ b * c := by
    have h3 := Int.mul_le_mul_of_nonneg_right h1 (show 0 ≤ d by omega)
    have h4 : b * (a / b) * d = b * (a / b * d) := Int.mul_assoc _ _ _
    have h5 : a * d = d * a := Int.mul_comm _ _
    omega
  exact Int.le_of_mul_le_mul_left h2 hb
theorem nn_far (P : Poly X Y m) {y : Int} {i : Nat} (h1 : Y i ≤ y) (h2 : y ≤ Y (i + 1)) : -4000000 * dY Y i ≤ nn X Y i y ∧ nn X Y i y ≤ 4000000 * dY Y i := by
  rw [nn_id]
  have a1 := Int.mul_nonneg (a := Y (i + 1) - y) (b := X i + 4000000) (by omega) (by have := (P.far i).1; omega)
  have a2 := Int.mul_nonneg (a := y - Y i) (b := X (i + 1) + 4000000) (by omega) (by have := (P.far (i + 1)).1; omega)
  have a3 := Int.mul_nonneg (a := Y (i + 1) - y) (b := 4000000 - X i) (by omega) (by have := (P.far i).2; omega)
  have a4 := Int.mul_nonneg (a := y - Y i) (b := 4000000 - X (i + 1)) (by omega) (by have := (P.far (i + 1)).2; omega)
  unfold dY
  constructor <;> grind
theorem nn_far' (P : Poly X Y m) {y : Int} {i : Nat} (h1 : Y (i + 1) ≤ y) (h2 : y ≤ Y i) : -4000000 * (- dY Y i) ≤ nn X Y i y ∧ nn X Y i y ≤ 4000000 * (- dY Y i) := by
  rw [nn_id]
  have a1 := Int.mul_nonneg (a := y - Y (i + 1)) (b := X i + 4000000) (by omega) (by have := (P.far i).1; omega)
  have a2 := Int.mul_nonneg (a := Y i - y) (b := X (i + 1) + 4000000) (by omega) (by have := (P.far (i + 1)).1; omega)
  have a3 := Int.mul_nonneg (a := y - Y (i + 1)) (b := 4000000 - X i) (by omega) (by have := (P.far i).2; omega)
  have a4 := Int.mul_nonneg (a := Y i - y) (b := 4000000 - X (i + 1)) (by omega) (by have := (P.far (i + 1)).2; omega)
  unfold dY
  constructor <;> grind
theorem hi_eq (P : Poly X Y m) {y : Int} {i : Nat} (hd : 0 < dY Y i) (h1 : Y i ≤ y) (h2 : y ≤ Y (i + 1)) : ∀ k, (k ≤ i → nn X Y i y / dY Y i ≤ hiF X Y y k) ∧ (i < k → hiF X Y y k = nn X Y i y / dY Y i)
  | 0 => ⟨fun _ => by
      have := (nn_far P h1 h2).2
      show _ ≤ (4000000 : Int)
      exact Int.ediv_le_of_le_mul hd this, by omega⟩
  | k + 1 => by
    obtain ⟨g1, g2⟩ := hi_eq P hd h1 h2 k
    have hdom := up_dom P h1 h2 k
    unfold hiF
    by_cases hk : 0 < dY Y k
    · rw [if_pos hk]
      have hle := floor_le hd hk hdom
      refine ⟨fun h => Int.le_min.2 ⟨g1 (by omega), hle⟩, fun h => ?_⟩
      by_cases e : k = i
      · subst e; exact Int.min_eq_right (g1 (Nat.le_refl _))
      · rw [g2 (by omega)]; exact Int.min_eq_left hle
    · rw [if_neg hk]
      refine ⟨fun h => g1 (by omega), fun h => g2 ?_⟩
      rcases Nat.eq_or_lt_of_le (show i ≤ k by omega) with e | e
      · subst e; exact absurd hd hk
      · exact e
theorem lo_eq (P : Poly X Y m) {y : Int} {i : Nat} (hd : dY Y i < 0) (h1 : Y (i + 1) ≤ y) (h2 : y ≤ Y i) : ∀ k, (k ≤ i → loF X Y y k ≤ -(nn X Y i y / - dY Y i)) ∧ (i < k → loF X Y y k = -(nn X Y i y / - dY Y i))
  | 0 => ⟨fun _ => by
      have := (nn_far' P h1 h2).2
      show (-4000000 : Int) ≤ _
      have h3 := Int.ediv_le_of_le_mul (show 0 < - dY Y i by omega) this
      omega, by omega⟩
  | k + 1 => by
    obtain ⟨g1, g2⟩ := lo_eq P hd h1 h2 k
    have hdom := dn_dom P h1 h2 k
    unfold loF
    by_cases hk : dY Y k < 0
    · rw [if_pos hk]
      have hle := floor_le (a := nn X Y i y) (b := - dY Y i) (c := nn X Y k y) (d := - dY Y k) (by omega) (by omega) (by rw [Int.neg_mul, Int.neg_mul]; omega)
      refine ⟨fun h => Int.max_le.2 ⟨g1 (by omega), by omega⟩, fun h => ?_⟩
      by_cases e : k = i
      · subst e; exact Int.max_eq_right (g1 (Nat.le_refl _))
      · rw [g2 (by omega)]; exact Int.max_eq_left (by omega)
    · rw [if_neg hk]
      refine ⟨fun h => g1 (by omega), fun h => g2 ?_⟩
      rcases Nat.eq_or_lt_of_le (show i ≤ k by omega) with e | e
      · subst e; exact absurd hd hk
      · exact e
theorem not_bad (P : Poly X Y m) {y : Int} {i : Nat} (hd : 0 < dY Y i) (h1 : Y i ≤ y) (h2 : y ≤ Y (i + 1)) (j : Nat) : ¬ bad X Y y j := by
  rintro ⟨e, h⟩
  have := up_dom P h1 h2 j
  rw [e, Int.zero_mul] at this
  have h3 := Int.mul_neg_of_pos_of_neg hd h
  omega
/-- The row's count, by the edge up and the edge down. -/
theorem cnt_eq (P : Poly X Y m) {y : Int} {i j : Nat} (hi : i < m) (hj : j < m) (hd : 0 < dY Y i) (h1 : Y i ≤ y) (h2 : y ≤ Y (i + 1)) (hd' : dY Y j < 0) (h1' : Y (j + 1) ≤ y) (h2' : y ≤ Y j) :
    cnt X Y m y = nn X Y i y / dY Y i + nn X Y j y / - dY Y j + 1 := by
  have e1 := (hi_eq P hd h1 h2 m).2 hi
  have e2 := (lo_eq P hd' h1' h2' m).2 hj
  unfold cnt
  rw [e1, e2]
  have hdom := up_dom P h1 h2 j
  have key : -1 ≤ nn X Y i y / dY Y i + nn X Y j y / - dY Y j := by
    have a1 := Int.lt_ediv_add_one_mul_self (nn X Y i y) hd
    have a2 := Int.lt_ediv_add_one_mul_self (nn X Y j y) (show 0 < - dY Y j by omega)
    generalize nn X Y i y / dY Y i = q at *
    generalize nn X Y j y / - dY Y j = r at *
    apply Classical.byContradiction
    intro hn
    have b1 : nn X Y i y * - dY Y j < (q + 1) * dY Y i * - dY Y j := Int.mul_lt_mul_of_pos_right a1 (by omega)
    have b2 : nn X Y j y * dY Y i < (r + 1) * - dY Y j * dY Y i := Int.mul_lt_mul_of_pos_right a2 hd
    have b3 : 0 ≤ (dY Y i * - dY Y j) * (- (q + r + 2)) := Int.mul_nonneg (Int.mul_nonneg (by omega) (by omega)) (by omega)
    have b4 : (q + 1) * dY Y i * - dY Y j + (r + 1) * - dY Y j * dY Y i = - ((dY Y i * - dY Y j) * (- (q + r + 2))) := by grind
    have b5 : nn X Y i y * - dY Y j + nn X Y j y * dY Y i = dY Y i * nn X Y j y - dY Y j * nn X Y i y := by grind
    omega
  split <;> omega
end
theorem hiF_s (X Y : Nat → Int) (y : Int) (j : Nat) : hiF X Y y (j + 1) = if 0 < dY Y j then min (hiF X Y y j) (nn X Y j y / dY Y j) else hiF X Y y j := rfl
theorem loF_s (X Y : Nat → Int) (y : Int) (j : Nat) : loF X Y y (j + 1) = if dY Y j < 0 then max (loF X Y y j) (-(nn X Y j y / - dY Y j)) else loF X Y y j := rfl
attribute [irreducible] hiF loF
end Go.Dam.Pick

/-
  Pick's law for a convex polygon with whole corners: the rows' counts summed are (twice the area, and the border, and 2) halved. Conditions: none; nothing here names the program.
-/
namespace Go.Dam.Pick
set_option linter.unusedVariables false
section
variable (X Y : Nat → Int)
/-- An edge's part of a row. -/
def tt (j : Nat) (y : Int) : Int := if Y j ≤ y ∧ y < Y (j + 1) then nn X Y j y / dY Y j + 1 else if Y (j + 1) ≤ y ∧ y < Y j then nn X Y j y / - dY Y j else 0
def gg (j : Nat) : Int := Int.gcd (dX X j) (dY Y j)
/-- A horizontal edge to the left. -/
def hh (j : Nat) : Int := if dY Y j = 0 ∧ dX X j < 0 then - dX X j else 0
def dt (j : Nat) : Int := X j * Y (j + 1) - Y j * X (j + 1)
end
section
variable {X Y : Nat → Int} {m : Nat}
theorem row_tt (P : Poly X Y m) {y : Int} {k k' : Nat} (hk : k < m) (hk' : k' < m) (h1 : Y k ≤ y) (h2 : y < Y k') : cnt X Y m y = sumN m (fun j => tt X Y j y) := by
  obtain ⟨i, hi, ui⟩ := up_ex P hk h1 h2
  obtain ⟨d, hd, ud⟩ := dn_ex P hk' h1 h2
  have di : 0 < dY Y i := by unfold dY; have := ui.1; have := ui.2; omega
  have dd : dY Y d < 0 := by unfold dY; have := ud.1; have := ud.2; omega
  rw [cnt_eq P hi hd di ui.1 (by have := ui.2; omega) dd ud.1 (by have := ud.2; omega)]
  have e : ∀ j, tt X Y j y = (if Y j ≤ y ∧ y < Y (j + 1) then nn X Y j y / dY Y j + 1 else 0) + (if Y (j + 1) ≤ y ∧ y < Y j then nn X Y j y / - dY Y j else 0) := fun j => by
    unfold tt
    split
    · rw [if_neg (by omega)]; omega
    · omega
  rw [sumN_congr (fun j _ => e j), sumN_add, sumN_one (f := fun j => if Y j ≤ y ∧ y < Y (j + 1) then nn X Y j y / dY Y j + 1 else 0) hi (fun k hk hki => if_neg fun h => hki (up_one P hk hi h ui)), sumN_one (f := fun j => if Y (j + 1) ≤ y ∧ y < Y j then nn X Y j y / - dY Y j else 0) hd (fun k hk hkd => if_neg fun h => hkd (dn_one P hk hd h ud)), if_pos (show Y i ≤ y ∧ y < Y (i + 1) from ui), if_pos (show Y (d + 1) ≤ y ∧ y < Y d from ud)]
  omega
/-- An edge's parts of all rows from low to below high. -/
theorem edge_sum (j : Nat) {low high : Int} (h1 : low ≤ Y j) (h2 : Y j ≤ high) (h3 : low ≤ Y (j + 1)) (h4 : Y (j + 1) ≤ high) :
    2 * sumN (high - low).toNat (fun r => tt X Y j (low + r)) = if dY Y j = 0 then 0 else dY Y j * (X j + X (j + 1)) - dX X j + dY Y j + gg X Y j := by
  rcases Int.lt_trichotomy (dY Y j) 0 with hd | hd | hd
  · rw [if_neg (by omega)]
    obtain ⟨a, ha⟩ : ∃ a : Nat, (a : Int) = Y (j + 1) - low := ⟨(Y (j + 1) - low).toNat, by omega⟩
    obtain ⟨d, hdd⟩ : ∃ d : Nat, (d : Int) = - dY Y j := ⟨(- dY Y j).toNat, by omega⟩
    obtain ⟨b, hb⟩ : ∃ b : Nat, (b : Int) = high - Y j := ⟨(high - Y j).toNat, by omega⟩
    have hdY : dY Y j = Y (j + 1) - Y j := rfl
    rw [show (high - low).toNat = a + d + b by omega, sumN_split, sumN_split, sumN_zero (n := a) (fun k hk => by unfold tt; rw [if_neg (by omega), if_neg (by omega)]),
      sumN_zero (n := b) (fun k hk => by unfold tt; rw [if_neg (by omega), if_neg (by omega)])]
    have e : ∀ k, k < d → tt X Y j (low + ((a + k : Nat) : Int)) = - X (j + 1) + dX X j * k / (d : Int) := fun k hk => by
      unfold tt
      rw [if_neg (by omega), if_pos (by omega), ← hdd]
      have : nn X Y j (low + ((a + k : Nat) : Int)) = dX X j * k + (d : Int) * (- X (j + 1)) := by
        have h5 : low + ((a + k : Nat) : Int) - Y j = k - d := by omega
        unfold nn
        rw [h5, show dY Y j = - (d : Int) by omega]
        unfold dX; grind
      rw [this, Int.add_mul_ediv_left _ _ (by omega)]; omega
    rw [sumN_congr e, sumN_add, sumN_const]
    have hf := floor_sum d (by omega) (dX X j)
    have hg : gg X Y j = Int.gcd d (dX X j) := by unfold gg; rw [Int.gcd_comm, hdd, Int.neg_gcd]
    rw [hg]
    have hx : X (j + 1) = X j + dX X j := by unfold dX; omega
    have e2 : dY Y j = - (d : Int) := by omega
    rw [e2, hx]
    grind
  · rw [if_pos hd]
    have hdY : dY Y j = Y (j + 1) - Y j := rfl
    rw [sumN_zero fun k hk => by unfold tt; rw [if_neg (by omega), if_neg (by omega)]]; rfl
  · rw [if_neg (by omega)]
    obtain ⟨a, ha⟩ : ∃ a : Nat, (a : Int) = Y j - low := ⟨(Y j - low).toNat, by omega⟩
    obtain ⟨d, hdd⟩ : ∃ d : Nat, (d : Int) = dY Y j := ⟨(dY Y j).toNat, by omega⟩
    obtain ⟨b, hb⟩ : ∃ b : Nat, (b : Int) = high - Y (j + 1) := ⟨(high - Y (j + 1)).toNat, by omega⟩
    have hdY : dY Y j = Y (j + 1) - Y j := rfl
    rw [show (high - low).toNat = a + d + b by omega, sumN_split, sumN_split, sumN_zero (n := a) (fun k hk => by unfold tt; rw [if_neg (by omega), if_neg (by omega)]),
      sumN_zero (n := b) (fun k hk => by unfold tt; rw [if_neg (by omega), if_neg (by omega)])]
    have e : ∀ k, k < d → tt X Y j (low + ((a + k : Nat) : Int)) = (X j + 1) + dX X j * k / (d : Int) := fun k hk => by
      unfold tt
      rw [if_pos (by omega), ← hdd]
      have : nn X Y j (low + ((a + k : Nat) : Int)) = dX X j * k + (d : Int) * X j := by
        have h5 : low + ((a + k : Nat) : Int) - Y j = k := by omega
        unfold nn
        rw [h5, ← hdd]
      rw [this, Int.add_mul_ediv_left _ _ (by omega)]; omega
    rw [sumN_congr e, sumN_add, sumN_const]
    have hf := floor_sum d (by omega) (dX X j)
    have hg : gg X Y j = Int.gcd d (dX X j) := by unfold gg; rw [Int.gcd_comm, hdd]
    rw [hg]
    have hx : X (j + 1) = X j + dX X j := by unfold dX; omega
    rw [← hdd, hx]
    grind
theorem hor_term (j : Nat) : (if dY Y j = 0 then 0 else dY Y j * (X j + X (j + 1)) - dX X j + dY Y j + gg X Y j) = dt X Y j + (X (j + 1) * Y (j + 1) - X j * Y j) - dX X j + dY Y j + gg X Y j - 2 * hh X Y j := by
  have e : dY Y j * (X j + X (j + 1)) = dt X Y j + (X (j + 1) * Y (j + 1) - X j * Y j) := by unfold dY dt; grind
  by_cases h : dY Y j = 0
  · rw [if_pos h, ← e, h]
    have hg : gg X Y j = (dX X j).natAbs := by unfold gg; rw [h, Int.gcd_zero]
    rw [hg]
    unfold hh
    rw [Int.zero_mul]
    by_cases h2 : dX X j < 0
    · rw [if_pos ⟨h, h2⟩]; omega
    · rw [if_neg (fun c => h2 c.2)]; omega
  · rw [if_neg h, ← e]
    unfold hh
    rw [if_neg (fun c => h c.1)]; omega
/-- The row at the top. -/
theorem top_row (P : Poly X Y m) {low high : Int} {k k' : Nat} (hk : k < m) (hk' : k' < m) (h1 : Y k = low) (h2 : Y k' = high) (hb : ∀ j, low ≤ Y j ∧ Y j ≤ high) (hlt : low < high) :
    cnt X Y m high = sumN m (hh X Y) + 1 := by
  have hm3 := P.m3
  obtain ⟨j, hj, uj⟩ := up_ex P (y := high - 1) (k' := k') hk (by omega) (by omega)
  obtain ⟨d, hd, ud⟩ := dn_ex P (y := high - 1) (k := k) hk' (by omega) (by omega)
  have tj : Y (j + 1) = high := by have := uj.2; have := (hb (j + 1)).2; omega
  have td : Y d = high := by have := ud.2; have := (hb d).2; omega
  have uj1 := uj.1
  have ud1 := ud.1
  have dj : 0 < dY Y j := by unfold dY; omega
  have dd : dY Y d < 0 := by unfold dY; omega
  rw [cnt_eq P hj hd dj (by omega) (by omega) dd (by omega) (by omega)]
  have e1 : nn X Y j high / dY Y j = X (j + 1) := by
    rw [nn_id, tj, Int.sub_self, Int.zero_mul, Int.zero_add]
    have : high - Y j = dY Y j := by unfold dY; omega
    rw [this]; exact Int.mul_ediv_cancel_left _ (by omega)
  have e2 : nn X Y d high / - dY Y d = - X d := by
    rw [nn_id, td, Int.sub_self, Int.zero_mul, Int.add_zero]
    have : Y (d + 1) - high = dY Y d := by unfold dY; omega
    rw [this, Int.ediv_neg]
    rw [Int.mul_ediv_cancel_left _ (by omega)]
  rw [e1, e2]
  -- horizontals to the left lie at the top
  have hor : ∀ i, dY Y i = 0 → dX X i < 0 → Y i = high := fun i a b => by
    have := P.left i k'
    unfold lf at this
    rw [a, Int.zero_mul, h2] at this
    have hbi := (hb i).2
    rcases Int.lt_or_le (Y i) high with c | c
    · have := Int.mul_neg_of_neg_of_pos b (show 0 < high - Y i by omega); omega
    · omega
  have lf0 : ∀ i t, dY Y i = 0 → Y i = high → Y t = high → lf X Y i (X t) (Y t) = 0 := fun i t a b c => by
    unfold lf; rw [a, b, c]; simp
  have md : ∀ a, a < m → a % m = a := fun a h => Nat.mod_eq_of_lt h
  by_cases same : X (j + 1) = X d
  · have hz : sumN m (hh X Y) = 0 := sumN_zero fun i hi => by
      unfold hh
      rw [if_neg]
      rintro ⟨a, b⟩
      have ti := hor i a b
      rcases P.strict i (j + 1) (lf0 i (j + 1) a ti tj) with ⟨g1, g2⟩ | ⟨g1, g2⟩
      · have : i = d := P.inj _ _ hi hd (g1.symm.trans same) (by omega)
        subst this
        unfold dY at a; omega
      · have := inj_succ hj hi (P.inj' g1 g2)
        subst this; omega
    rw [hz, same]; omega
  · obtain ⟨i0, hi0, q1, q2⟩ : ∃ i0, i0 < m ∧ X i0 = X (j + 1) ∧ Y i0 = Y (j + 1) := ⟨(j + 1) % m, Nat.mod_lt _ (by omega), (P.mod _).1, (P.mod _).2⟩
    have ti0 : Y i0 = high := by omega
    have ts : Y (i0 + 1) = high := by
      rcases Int.lt_or_le (Y (i0 + 1)) high with c | c
      · have : i0 = d := dn_one P hi0 hd (y := high - 1) ⟨by omega, by omega⟩ ud
        subst this; exact absurd q1.symm same
      · have := (hb (i0 + 1)).2; omega
    have a0 : dY Y i0 = 0 := by unfold dY; omega
    have b0 : dX X i0 < 0 := by
      have hl := P.left i0 k
      unfold lf at hl
      rw [a0, Int.zero_mul, h1, ti0] at hl
      rcases Int.lt_trichotomy (dX X i0) 0 with c | c | c
      · exact c
      · have h5 := P.inj' (a := i0) (b := i0 + 1) (by unfold dX at c; omega) (by omega)
        rw [md i0 hi0] at h5
        rcases Nat.eq_or_lt_of_le (show i0 + 1 ≤ m from hi0) with e | e
        · rw [e, Nat.mod_self] at h5; omega
        · rw [md _ e] at h5; omega
      · have := Int.mul_neg_of_pos_of_neg c (show low - high < 0 by omega); omega
    have hone : sumN m (hh X Y) = hh X Y i0 := sumN_one hi0 fun i hi hne => by
      unfold hh
      rw [if_neg]
      rintro ⟨a, b⟩
      have ti := hor i a b
      rcases P.strict i i0 (lf0 i i0 a ti ti0) with ⟨g1, g2⟩ | ⟨g1, g2⟩
      · exact hne (P.inj _ _ hi hi0 g1.symm g2.symm)
      · have := inj_succ hj hi (P.inj' (q1.symm.trans g1) (q2.symm.trans g2))
        subst this; omega
    have hxd : X (i0 + 1) = X d := by
      obtain ⟨i1, hi1, p1, p2⟩ : ∃ i1, i1 < m ∧ X i1 = X (i0 + 1) ∧ Y i1 = Y (i0 + 1) := ⟨(i0 + 1) % m, Nat.mod_lt _ (by omega), (P.mod _).1, (P.mod _).2⟩
      rcases Int.lt_or_le (Y (i1 + 1)) high with c | c
      · have : i1 = d := dn_one P hi1 hd (y := high - 1) ⟨by omega, by omega⟩ ud
        subst this; exact p1.symm
      · exfalso
        have t2 : Y (i1 + 1) = high := by have := (hb (i1 + 1)).2; omega
        have hmod := P.inj' p1 p2
        rw [md _ hi1] at hmod
        have hne1 : i1 ≠ i0 := fun e => by
          rw [e] at hmod
          rcases Nat.eq_or_lt_of_le (show i0 + 1 ≤ m from hi0) with e' | e'
          · rw [e', Nat.mod_self] at hmod; omega
          · rw [md _ e'] at hmod; omega
        have two : (i0 + 1) % m = i1 := hmod.symm
        rcases P.strict i0 (i1 + 1) (lf0 i0 (i1 + 1) a0 ti0 t2) with ⟨g1, g2⟩ | ⟨g1, g2⟩
        · have h6 := P.inj' g1 g2
          rw [md _ hi0] at h6
          rcases Nat.eq_or_lt_of_le (show i0 + 1 ≤ m from hi0) with e | e
          · rw [e, Nat.mod_self] at two; subst two; rw [md _ (by omega)] at h6; omega
          · rw [md _ e] at two; subst two
            rcases Nat.eq_or_lt_of_le (show i0 + 1 + 1 ≤ m from e) with e' | e'
            · rw [e', Nat.mod_self] at h6; omega
            · rw [md _ e'] at h6; omega
        · have h6 := inj_succ hi1 hi0 (P.inj' g1 g2)
          exact hne1 h6
    rw [hone]
    unfold hh
    rw [if_pos ⟨a0, b0⟩, ← hxd, ← q1]
    unfold dX; omega
/-- Pick's law: all rows' counts. -/
theorem pick (P : Poly X Y m) {low high : Int} {k k' : Nat} (hk : k < m) (hk' : k' < m) (h1 : Y k = low) (h2 : Y k' = high) (hb : ∀ j, low ≤ Y j ∧ Y j ≤ high) (hlt : low < high) :
    2 * sumN ((high - low).toNat + 1) (fun r => cnt X Y m (low + r)) = sumN m (dt X Y) + sumN m (gg X Y) + 2 := by
  have hN : (((high - low).toNat : Nat) : Int) = high - low := by omega
  rw [sumN, hN, show low + (high - low) = high by omega, top_row P hk hk' h1 h2 hb hlt]
  have e1 : sumN (high - low).toNat (fun r => cnt X Y m (low + r)) = sumN m (fun j => sumN (high - low).toNat (fun r => tt X Y j (low + r))) := by
    rw [← sumN_swap]
    exact sumN_congr fun r hr => row_tt P hk hk' (by omega) (by omega)
  rw [e1]
  have e2 : 2 * sumN m (fun j => sumN (high - low).toNat (fun r => tt X Y j (low + r))) = sumN m (fun j => (dt X Y j + gg X Y j + (-2) * hh X Y j) + ((X (j + 1) * Y (j + 1) - X j * Y j) + (-1) * (X (j + 1) - X j) + (Y (j + 1) - Y j))) := by
    rw [← sumN_mul]
    refine sumN_congr fun j hj => ?_
    rw [edge_sum j (hb j).1 (hb j).2 (hb (j + 1)).1 (hb (j + 1)).2, hor_term]
    unfold dX dY; omega
  have t1 := sumN_tele m (fun j => X j * Y j)
  have t2 := sumN_tele m X
  have t3 := sumN_tele m Y
  have p0 := P.per 0
  rw [Nat.zero_add] at p0
  rw [Int.mul_add, e2, sumN_add, sumN_add, sumN_add, sumN_add, sumN_add, sumN_mul, sumN_mul, t1, t2, t3, p0.1, p0.2]
  omega
end
end Go.Dam.Pick

/-
  Plain law: the corners of a hull are a polygon of Pick's law; what the hull's rows and border then are. Conditions: coordinates within 2^20 either way.
-/
namespace Go.Dam.Hull
open Go.Dam.Pick
set_option linter.unusedVariables false
section
variable {F : Nat → Pt} {n : Nat} {H : List Nat}
def vX (F : Nat → Pt) (H : List Nat) (j : Nat) : Int := (F (H.getD (j % H.length) 0)).1
def vY (F : Nat → Pt) (H : List Nat) (j : Nat) : Int := (F (H.getD (j % H.length) 0)).2
theorem lf_trn (F : Nat → Pt) (H : List Nat) (j k : Nat) : lf (vX F H) (vY F H) j (vX F H k) (vY F H k) = trn (F (H.getD (j % H.length) 0)) (F (H.getD ((j + 1) % H.length) 0)) (F (H.getD (k % H.length) 0)) := by with_unfolding_all rfl
theorem HullIs.edge' (h : HullIs F n H) (h3 : 3 ≤ H.length) (j : Nat) : E F n (H.getD (j % H.length) 0) (H.getD ((j + 1) % H.length) 0) := by
  have := h.edge (by omega) (j % H.length) (Nat.mod_lt _ h.ne)
  rwa [Nat.add_mod, Nat.mod_mod, ← Nat.add_mod] at this
/-- No corner lies within an edge. -/
theorem HullIs.tight (hN : ∀ i, i < n → nr (F i)) (h : HullIs F n H) (h3 : 3 ≤ H.length) (j k : Nat) (hz : trn (F (H.getD (j % H.length) 0)) (F (H.getD ((j + 1) % H.length) 0)) (F (H.getD (k % H.length) 0)) = 0) :
    F (H.getD (k % H.length) 0) = F (H.getD (j % H.length) 0) ∨ F (H.getD (k % H.length) 0) = F (H.getD ((j + 1) % H.length) 0) := by
  have la : H.getD (j % H.length) 0 < n := h.lt'
  have lb : H.getD ((j + 1) % H.length) 0 < n := h.lt'
  have lc : H.getD (k % H.length) 0 < n := h.lt'
  have ld : H.getD ((k + 1) % H.length) 0 < n := h.lt'
  have E1 := h.edge' h3 j
  have E2 := h.edge' h3 k
  generalize H.getD (j % H.length) 0 = a at *
  generalize H.getD ((j + 1) % H.length) 0 = b at *
  generalize H.getD (k % H.length) 0 = c at *
  generalize H.getD ((k + 1) % H.length) 0 = d at *
  apply Classical.byContradiction
  intro hn
  have n1 : F c ≠ F a := fun e => hn (.inl e)
  have n2 : F c ≠ F b := fun e => hn (.inr e)
  have v1 : lv (F c) ≠ lv (F a) := fun e => n1 (lv_eq (hN _ lc) (hN _ la) e)
  have v2 : lv (F c) ≠ lv (F b) := fun e => n2 (lv_eq (hN _ lc) (hN _ lb) e)
  have btw := (E1.2 c lc).2 hz
  have ta := E2.2 a la
  have tb := E2.2 b lb
  have key : (lv (F c) - lv (F a)) * trn (F c) (F d) (F b) + (lv (F b) - lv (F c)) * trn (F c) (F d) (F a) = 0 := by
    have e : (lv (F c) - lv (F a)) * trn (F c) (F d) (F b) + (lv (F b) - lv (F c)) * trn (F c) (F d) (F a) = (lv (F c) - lv (F d)) * trn (F a) (F b) (F c) := by
      unfold lv trn; grind
    rw [e, hz, Int.mul_zero]
  have z : trn (F c) (F d) (F b) = 0 ∧ trn (F c) (F d) (F a) = 0 := by
    rcases btw with g | g
    · have m1 := Int.mul_nonneg (a := lv (F c) - lv (F a)) (by omega) tb.1
      have m2 := Int.mul_nonneg (a := lv (F b) - lv (F c)) (by omega) ta.1
      have q1 : (lv (F c) - lv (F a)) * trn (F c) (F d) (F b) = 0 := by omega
      have q2 : (lv (F b) - lv (F c)) * trn (F c) (F d) (F a) = 0 := by omega
      rcases Int.mul_eq_zero.1 q1 with q | q <;> rcases Int.mul_eq_zero.1 q2 with r | r <;> first | exact ⟨q, r⟩ | omega
    · have m1 := Int.mul_nonneg (a := - (lv (F c) - lv (F a))) (by omega) tb.1
      have m2 := Int.mul_nonneg (a := - (lv (F b) - lv (F c))) (by omega) ta.1
      rw [Int.neg_mul] at m1 m2
      have q1 : (lv (F c) - lv (F a)) * trn (F c) (F d) (F b) = 0 := by omega
      have q2 : (lv (F b) - lv (F c)) * trn (F c) (F d) (F a) = 0 := by omega
      rcases Int.mul_eq_zero.1 q1 with q | q <;> rcases Int.mul_eq_zero.1 q2 with r | r <;> first | exact ⟨q, r⟩ | omega
  have ba := ta.2 z.2
  have bb := tb.2 z.1
  rcases btw with ⟨g1, g2⟩ | ⟨g1, g2⟩ <;> rcases ba with ⟨a1, a2⟩ | ⟨a1, a2⟩ <;> rcases bb with ⟨b1, b2⟩ | ⟨b1, b2⟩ <;> omega
/-- No two corners are one. -/
theorem HullIs.inj (hN : ∀ i, i < n → nr (F i)) (h : HullIs F n H) (h3 : 3 ≤ H.length) {i j : Nat} (hi : i < H.length) (hj : j < H.length) (e : F (H.getD i 0) = F (H.getD j 0)) : i = j := by
  have step : ∀ a b, F (H.getD (a % H.length) 0) = F (H.getD (b % H.length) 0) → ∀ t, F (H.getD ((a + t) % H.length) 0) = F (H.getD ((b + t) % H.length) 0) := by
    intro a b hab t
    induction t with
    | zero => exact hab
    | succ t ih =>
      have ma := Nat.mod_lt (a + t) h.ne
      have mb := Nat.mod_lt (b + t) h.ne
      have e1 := h.next hN (by omega) _ ma
      have e2 := h.next hN (by omega) _ mb
      rw [ih, e2, Nat.add_mod, Nat.mod_mod, ← Nat.add_mod, Nat.add_mod ((a + t) % H.length), Nat.mod_mod, ← Nat.add_mod] at e1
      have : H.getD ((b + t + 1) % H.length) 0 = H.getD ((a + t + 1) % H.length) 0 := by omega
      rw [← Nat.add_assoc, ← Nat.add_assoc, this]
  have main : ∀ a b, a < b → b < H.length → F (H.getD a 0) = F (H.getD b 0) → False := by
    intro a b hab hb e
    have := step a b (by rw [Nat.mod_eq_of_lt (by omega), Nat.mod_eq_of_lt hb]; exact e) (H.length - b)
    rw [show b + (H.length - b) = H.length by omega, Nat.mod_self, Nat.mod_eq_of_lt (by omega)] at this
    exact h.dist _ (by omega) (by omega) this
  rcases Nat.lt_trichotomy i j with c | c | c
  · exact (main _ _ c hj e).elim
  · exact c
  · exact (main _ _ c hi e.symm).elim
theorem HullIs.poly (hN : ∀ i, i < n → nr (F i)) (hX : ∀ i, i < n → -1048576 ≤ (F i).1 ∧ (F i).1 ≤ 1048576) (h : HullIs F n H) (h3 : 3 ≤ H.length) : Poly (vX F H) (vY F H) H.length where
  m3 := h3
  per j := by unfold vX vY; rw [Nat.add_mod_right]; exact ⟨rfl, rfl⟩
  left j k := by rw [lf_trn]; exact ((h.edge' h3 j).2 _ h.lt').1
  strict j k hz := by
    rw [lf_trn] at hz
    rcases h.tight hN h3 j k hz with e | e
    · exact .inl ⟨congrArg Prod.fst e, congrArg Prod.snd e⟩
    · exact .inr ⟨congrArg Prod.fst e, congrArg Prod.snd e⟩
  inj i j hi hj ex ey := by
    refine h.inj hN h3 hi hj ?_
    have := Prod.ext (x := F (H.getD (i % H.length) 0)) (y := F (H.getD (j % H.length) 0)) ex ey
    rwa [Nat.mod_eq_of_lt hi, Nat.mod_eq_of_lt hj] at this
  far k := by have := hX _ (h.lt' (j := k)); unfold vX; omega
theorem shoe_sum (h : 0 < H.length) : ∀ k, k ≤ H.length → shoe F H k = sumN k (dt (vX F H) (vY F H))
  | 0, _ => by with_unfolding_all rfl
  | k + 1, hk => by
    have e : shoe F H (k + 1) = shoe F H k + det (F (H.getD k 0)) (F (H.getD ((k + 1) % H.length) 0)) := by with_unfolding_all rfl
    have e2 : ∀ a b : Pt, det a b = a.1 * b.2 - a.2 * b.1 := fun a b => by with_unfolding_all rfl
    rw [e, sumN, shoe_sum h k (by omega), e2]
    unfold dt vX vY
    rw [Nat.mod_eq_of_lt (show k < H.length by omega)]
/-- The whole border. -/
def bord (F : Nat → Pt) (H : List Nat) (k : Nat) : Int := sumN k (gg (vX F H) (vY F H))
/-- The lowest and the highest corner so far. -/
def lowC (F : Nat → Pt) (H : List Nat) : Nat → Int
  | 0 => vY F H 0
  | k + 1 => min (lowC F H k) (vY F H k)
def highC (F : Nat → Pt) (H : List Nat) : Nat → Int
  | 0 => vY F H 0
  | k + 1 => max (highC F H k) (vY F H k)
theorem lowC_at (F : Nat → Pt) (H : List Nat) : ∀ k, 0 < k → (∃ i, i < k ∧ vY F H i = lowC F H k) ∧ ∀ i, i < k → lowC F H k ≤ vY F H i
  | 1, _ => by
    have : lowC F H 1 = vY F H 0 := Int.min_self _
    rw [this]
    exact ⟨⟨0, by omega, rfl⟩, fun i hi => by obtain rfl : i = 0 := by omega
                                              exact Int.le_refl _⟩
  | k + 2, _ => by
    obtain ⟨⟨i, hi, e⟩, h2⟩ := lowC_at F H (k + 1) (by omega)
    have hd : lowC F H (k + 2) = min (lowC F H (k + 1)) (vY F H (k + 1)) := rfl
    refine ⟨?_, fun u hu => ?_⟩
    · rcases Int.le_total (lowC F H (k + 1)) (vY F H (k + 1)) with c | c
      · exact ⟨i, by omega, by rw [hd, Int.min_eq_left c, e]⟩
      · exact ⟨k + 1, by omega, by rw [hd, Int.min_eq_right c]⟩
    · rw [hd]
      rcases Nat.eq_or_lt_of_le (show u ≤ k + 1 by omega) with c | c
      · subst c; exact Int.min_le_right _ _
      · exact Int.le_trans (Int.min_le_left _ _) (h2 u c)
theorem highC_at (F : Nat → Pt) (H : List Nat) : ∀ k, 0 < k → (∃ i, i < k ∧ vY F H i = highC F H k) ∧ ∀ i, i < k → vY F H i ≤ highC F H k
  | 1, _ => by
    have : highC F H 1 = vY F H 0 := Int.max_self _
    rw [this]
    exact ⟨⟨0, by omega, rfl⟩, fun i hi => by obtain rfl : i = 0 := by omega
                                              exact Int.le_refl _⟩
  | k + 2, _ => by
    obtain ⟨⟨i, hi, e⟩, h2⟩ := highC_at F H (k + 1) (by omega)
    have hd : highC F H (k + 2) = max (highC F H (k + 1)) (vY F H (k + 1)) := rfl
    refine ⟨?_, fun u hu => ?_⟩
    · rcases Int.le_total (highC F H (k + 1)) (vY F H (k + 1)) with c | c
      · exact ⟨k + 1, by omega, by rw [hd, Int.max_eq_right c]⟩
      · exact ⟨i, by omega, by rw [hd, Int.max_eq_left c, e]⟩
    · rw [hd]
      rcases Nat.eq_or_lt_of_le (show u ≤ k + 1 by omega) with c | c
      · subst c; exact Int.le_max_right _ _
      · exact Int.le_trans (h2 u c) (Int.le_max_left _ _)
/-- All points of the rows so far, from the lowest one. -/
def allF (F : Nat → Pt) (H : List Nat) (low : Int) : Nat → Int
  | 0 => 0
  | r + 1 => allF F H low r + cnt (vX F H) (vY F H) H.length (low + r)
theorem allF_sum (F : Nat → Pt) (H : List Nat) (low : Int) : ∀ k, allF F H low k = sumN k (fun r => cnt (vX F H) (vY F H) H.length (low + r))
  | 0 => rfl
  | k + 1 => by rw [allF, sumN, allF_sum F H low k]
theorem HullIs.rows_bound (h : HullIs F n H) (j : Nat) : lowC F H H.length ≤ vY F H j ∧ vY F H j ≤ highC F H H.length := by
  have e : vY F H j = vY F H (j % H.length) := by unfold vY; rw [Nat.mod_mod]
  have hm := Nat.mod_lt j h.ne
  rw [e]
  exact ⟨(lowC_at F H _ h.ne).2 _ hm, (highC_at F H _ h.ne).2 _ hm⟩
section
variable (hN : ∀ i, i < n → nr (F i)) (hX : ∀ i, i < n → -1048576 ≤ (F i).1 ∧ (F i).1 ≤ 1048576) (h : HullIs F n H) (h3 : 3 ≤ H.length)
include hN hX h h3
theorem HullIs.rows_lt : lowC F H H.length < highC F H H.length := by
  have P := h.poly hN hX h3
  rcases Int.lt_or_le (lowC F H H.length) (highC F H H.length) with c | c
  · exact c
  · exfalso
    have hb := h.rows_bound
    have e : ∀ j, vY F H j = vY F H 0 := fun j => by have := hb j; have := hb 0; omega
    have z : lf (vX F H) (vY F H) 0 (vX F H 2) (vY F H 2) = 0 := by unfold lf dY; rw [e 2, e (0 + 1)]; simp
    rcases P.strict 0 2 z with ⟨g1, g2⟩ | ⟨g1, g2⟩
    · have := P.inj 2 0 (by omega) (by omega) g1 g2; omega
    · have := P.inj 2 1 (by omega) (by omega) g1 g2; omega
/-- Pick's law of the hull. -/
theorem HullIs.pick : 2 * allF F H (lowC F H H.length) ((highC F H H.length - lowC F H H.length).toNat + 1) = shoe F H H.length + bord F H H.length + 2 := by
  have P := h.poly hN hX h3
  obtain ⟨⟨k, hk, e1⟩, _⟩ := lowC_at F H _ h.ne
  obtain ⟨⟨k', hk', e2⟩, _⟩ := highC_at F H _ h.ne
  rw [allF_sum, Pick.pick P hk hk' e1 e2 (h.rows_bound) (h.rows_lt hN hX h3), shoe_sum h.ne _ (Nat.le_refl _)]
  rfl
/-- In the rows between the lowest and the highest corner no edge refuses. -/
theorem HullIs.no_bad (j : Nat) {y : Int} (h1 : lowC F H H.length ≤ y) (h2 : y ≤ highC F H H.length) : ¬ bad (vX F H) (vY F H) y j := by
  have P := h.poly hN hX h3
  have hlt := h.rows_lt hN hX h3
  obtain ⟨⟨k, hk, e1⟩, _⟩ := lowC_at F H _ h.ne
  obtain ⟨⟨k', hk', e2⟩, _⟩ := highC_at F H _ h.ne
  rcases Int.lt_or_le y (highC F H H.length) with c | c
  · obtain ⟨i, hi, u1, u2⟩ := up_ex P (y := y) (k' := k') hk (by omega) (by omega)
    exact not_bad P (by unfold dY; omega) u1 (by omega) j
  · obtain ⟨i, hi, u1, u2⟩ := up_ex P (y := y - 1) (k' := k') hk (by omega) (by omega)
    exact not_bad P (i := i) (by unfold dY; omega) (by omega) (by omega) j
end
end
end Go.Dam.Hull

/-
  Helper lemmas for all claims of this seat: how an argument that can be read as data lies in memory (a slice that reads as a list, a struct of plain fields), and how that reading is kept while the call makes blocks of its own. Conditions: none; nothing here names the program.
-/
namespace Go.Dam
open Go Go.RowKit Go.ChangeShapes Go.WideShapes Go.Joins Go.Deep
set_option linter.unusedVariables false

theorem block_of_add (a : Addr) (n : Nat) : (a.add n).block = a.block := by unfold Addr.add; split <;> rfl
theorem add_of_add (a : Addr) (i j : Nat) : (a.add i).add j = a.add (i + j) := by
  unfold Addr.add
  by_cases hi : i = 0 <;> by_cases hj : j = 0 <;> simp [hi, hj, Nat.add_assoc]

/-- The slice value with address A and n elements of 'size' cells each reads as the cells xs, and lies below block B. -/
def Reads (w : World) (B size : Nat) (A : Option Addr) (n : Nat) (xs : List Value) : Prop :=
  xs.length = n * size ∧ (0 < n → ∃ ad, A = some ad ∧ ad.block < B ∧ ∀ j u, xs[j]? = some u → w.cell? (ad.add j) = some u)

section
variable {w w' : World} {B B' size n : Nat} {A : Option Addr} {xs : List Value}
theorem Reads.none_ : Reads w B size A 0 [] := ⟨by simp, fun h => absurd h (by omega)⟩
theorem Reads.at_ {k : Nat} (h : Reads w B 1 A n xs) (hk : k < n) : ∃ ad u, A = some ad ∧ ad.block < B ∧ xs[k]? = some u ∧ w.cell? (ad.add k) = some u := by
  obtain ⟨ad, e, hb, hc⟩ := h.2 (by omega)
  have hl : k < xs.length := by have := h.1; omega
  exact ⟨ad, xs[k], e, hb, List.getElem?_eq_getElem hl, hc k _ (List.getElem?_eq_getElem hl)⟩
theorem cell_spot {w : World} {a : Addr} {v : Value} (h : w.cell? a = some v) : a.spot = none := by
  unfold World.cell? at h
  split at h
  · split at h
    · cases h
    · rename_i hs; simpa using hs
  · cases h
theorem Reads.addr (h : Reads w B 1 A n xs) (hn : 0 < n) : ∃ b off, A = some ⟨b, off, none⟩ ∧ b < B ∧ ∀ k, k < n → ∃ u, xs[k]? = some u ∧ w.cell? ⟨b, off + k, none⟩ = some u := by
  obtain ⟨ad, e, hb, hc⟩ := h.2 hn
  obtain ⟨b, off, sp⟩ := ad
  have key : ∀ k, k < n → ∃ u, xs[k]? = some u ∧ w.cell? ((⟨b, off, sp⟩ : Addr).add k) = some u := by
    intro k hk
    have hl : k < xs.length := by have := h.1; omega
    exact ⟨xs[k], List.getElem?_eq_getElem hl, hc k _ (List.getElem?_eq_getElem hl)⟩
  obtain ⟨u0, _, hu0⟩ := key 0 hn
  have hsp : sp = none := by simpa [Addr.add] using cell_spot hu0
  subst hsp
  refine ⟨b, off, e, hb, fun k hk => ?_⟩
  obtain ⟨u, hx, hu⟩ := key k hk
  refine ⟨u, hx, ?_⟩
  unfold Addr.add at hu
  split at hu
  · rename_i h0; subst h0; exact hu
  · exact hu
theorem Reads.keep (h : Reads w B size A n xs) (hk : ∀ p : Addr, p.block < B → w'.cell? p = w.cell? p) : Reads w' B size A n xs :=
  ⟨h.1, fun hn => by
    obtain ⟨ad, e, hb, hc⟩ := h.2 hn
    exact ⟨ad, e, hb, fun j u hu => (hk _ (by rw [block_of_add]; exact hb)).trans (hc j u hu)⟩⟩
theorem Reads.more (h : Reads w B size A n xs) (hB : B ≤ B') : Reads w B' size A n xs :=
  ⟨h.1, fun hn => by
    obtain ⟨ad, e, hb, hc⟩ := h.2 hn
    exact ⟨ad, e, by omega, hc⟩⟩
theorem Reads.below (h : Reads w B size A n xs) (hb : Below B w w') : Reads w' B size A n xs := h.keep fun _ hp => hb.cell hp
theorem Reads.drew (h : Reads w B size A n xs) : Reads w.drew B size A n xs := h
theorem Reads.drewN (h : Reads w B size A n xs) (k : Nat) : Reads (w.drewN k) B size A n xs := h
theorem Reads.alloc (h : Reads w B size A n xs) (hB : B ≤ w.heap.size) (o : Obj) : Reads (w.alloc o) B size A n xs := h.keep fun p hp => World.cell?_alloc_lt w o p (by omega)
theorem Reads.setCell (h : Reads w B size A n xs) {p : Addr} (hB : B ≤ p.block) (u : Value) : Reads (w.setCell p u) B size A n xs :=
  h.keep fun q hq => World.cell?_setCell_other w p q u (fun e => by subst e; omega)
theorem Reads.grown (h : Reads w B size A n xs) {row : Option Nat} (hg : w.grownBy w' row) (hB : B ≤ w.heap.size) (hr : ∀ g, row = some g → B ≤ g) : Reads w' B size A n xs :=
  h.keep fun p hp => World.cell?_of_block (hg.block p.block (by omega) (fun e => by have := hr _ e.symm; omega))
theorem Reads.cut (h : Reads w B size A n xs) {k cap : Nat} (hk : k ≤ n) (hc : n ≤ cap) :
    Reads w B size (if cap = k then A else A.map (·.add (k * size))) (n - k) (xs.drop (k * size)) := by
  refine ⟨by rw [List.length_drop, h.1, Nat.sub_mul], fun hn => ?_⟩
  obtain ⟨ad, rfl, hb, hcell⟩ := h.2 (by omega)
  rw [if_neg (by omega)]
  refine ⟨ad.add (k * size), rfl, by rw [block_of_add]; exact hb, fun j u hu => ?_⟩
  rw [add_of_add]
  exact hcell _ u (by rw [← hu, List.getElem?_drop])
theorem Reads.take (h : Reads w B size A n xs) {k : Nat} (hk : k ≤ n) : Reads w B size A k (xs.take (k * size)) := by
  refine ⟨by rw [List.length_take, h.1]; exact Nat.min_eq_left (Nat.mul_le_mul_right _ hk), fun hn => ?_⟩
  obtain ⟨ad, rfl, hb, hcell⟩ := h.2 (by omega)
  refine ⟨ad, rfl, hb, fun j u hu => ?_⟩
  rw [List.getElem?_take] at hu
  split at hu
  · exact hcell _ u hu
  · cases hu
theorem Reads.of_own {base : Nat} {e : TypeId} {c : Nat} (h : w.ownsRow base e size (.slice A n c) n xs) : Reads w w.heap.size size A n xs := by
  refine ⟨h.1, fun hn => ?_⟩
  obtain ⟨g, cap, hv, _, hlt⟩ := h.form hn
  have hA : A = some ⟨g, 0, none⟩ := by injection hv
  subst hA
  exact ⟨_, rfl, hlt, h.cells (g := g) rfl⟩
end

/-- Block g is just the cells cs of element type t, none frozen. -/
def Blk (w : World) (g : Nat) (t : TypeId) (cs : Array Value) : Prop := w.heap[g]? = some (.cells cs t (0, 0))
section
variable {w w' : World} {g : Nat} {t : TypeId} {cs : Array Value}
theorem Blk.lt (h : Blk w g t cs) : g < w.heap.size := by
  rcases Nat.lt_or_ge g w.heap.size with hlt | hge
  · exact hlt
  · unfold Blk at h; rw [Array.getElem?_eq_none hge] at h; cases h
theorem Blk.cell (h : Blk w g t cs) (i : Nat) : w.cell? ⟨g, i, none⟩ = cs[i]? := cell_of_row w g i cs t (0, 0) h
theorem Blk.frozen (h : Blk w g t cs) (i : Nat) : w.frozen? ⟨g, i, none⟩ = false := by
  unfold Blk at h
  simp [World.frozen?, h]
theorem Blk.new (w : World) (t : TypeId) (cs : Array Value) : Blk (w.alloc (.cells cs t)) w.heap.size t cs := heap_alloc_new w _
theorem Blk.new_at (w : World) (t : TypeId) (cs : Array Value) (g : Nat) (hg : g = w.heap.size) : Blk (w.alloc (.cells cs t)) g t cs := by subst hg; exact Blk.new w t cs
theorem Blk.drew (h : Blk w g t cs) : Blk w.drew g t cs := h
theorem Blk.drewN (h : Blk w g t cs) (n : Nat) : Blk (w.drewN n) g t cs := h
theorem Blk.alloc (h : Blk w g t cs) (o : Obj) : Blk (w.alloc o) g t cs := (Below.heap_alloc w o g h.lt).trans h
theorem Blk.set_ (h : Blk w g t cs) (i : Nat) (u : Value) : Blk (w.setCell ⟨g, i, none⟩ u) g t (cs.setIfInBounds i u) := by
  unfold Blk at h ⊢
  simp [World.setCell, Array.getElem?_modify, h]
theorem Blk.far (h : Blk w g t cs) {p : Addr} (hp : g ≠ p.block) (u : Value) : Blk (w.setCell p u) g t cs := (Below.heap_setCell w p u g hp).trans h
theorem Blk.below {B : Nat} (h : Blk w g t cs) (hb : Below B w w') (hg : g < B) : Blk w' g t cs := (hb.block g hg).trans h
theorem Blk.grown {row : Option Nat} (h : Blk w g t cs) (hb : w.grownBy w' row) (hg : some g ≠ row) : Blk w' g t cs := (hb.block g h.lt hg).trans h
theorem Blk.ne_ {g' : Nat} {t' : TypeId} {cs' : Array Value} (h : Blk w g t cs) (h' : Blk w g' t' cs') (hne : t ≠ t') : g ≠ g' := by
  rintro rfl
  unfold Blk at h h'
  rw [h] at h'
  injection h' with h'
  injection h' with _ ht
  exact hne ht
end

/-! ### From a datum's reading to 'Reads' -/
section
variable {H : Type} {enc : TypeId × Value → H} {P : Program} {w : World} {base : Nat} {spare : Nat → Bool} {held : Bool}

theorem cell_lt {w : World} {a : Addr} {v : Value} (h : w.cell? a = some v) : a.block < w.heap.size := by
  unfold World.cell? at h
  rcases Nat.lt_or_ge a.block w.heap.size with hlt | hge
  · exact hlt
  · rw [Array.getElem?_eq_none hge] at h; cases h

/-- No part of the datum is longer than the form's reach. -/
def Sized (P : Program) (t : TypeId) (d : DataW H) : Prop := ∀ n ∈ d.weights P t, n ≤ reachBytes
theorem weightsAll_mem {e : TypeId} {d : DataW H} {n : Nat} : ∀ {l : List (DataW H)}, d ∈ l → n ∈ d.weights P e → n ∈ DataW.weightsAll P e l
  | x :: l, hd, hn => by
    simp only [DataW.weightsAll, List.mem_append]
    rcases List.mem_cons.1 hd with rfl | hd
    · exact Or.inl hn
    · exact Or.inr (weightsAll_mem hd hn)
theorem Sized.field {t : TypeId} {fs : Array Field} {parts : List (DataW H)} (ht : P.underlying t = some (.struct fs)) (hz : Sized P t (.agg parts)) {j : Nat} {f : Field} {d : DataW H} (hf : fs[j]? = some f) (hd : parts[j]? = some d) : Sized P f.type d := by
  intro n hn
  refine hz n ?_
  simp only [DataW.weights, ht]
  exact DataW.weights_mem_each (by simpa using ⟨f, hf, rfl⟩) hd n hn
theorem sized_arg {ts : List TypeId} {ds : List (DataW H)} (h : (DataW.weightsEach P ts ds).all (· ≤ reachBytes) = true) {j : Nat} {t : TypeId} {d : DataW H} (ht : ts[j]? = some t) (hd : ds[j]? = some d) : Sized P t d := by
  intro n hn
  have := List.all_eq_true.1 h n (DataW.weights_mem_each ht hd n hn)
  simpa using this

/-- Whatever slice can be read as data: 'Reads', and each element's cells read as data of the element's type. -/
theorem open_reads {t e : TypeId} {s fuel : Nat} {cs : List Value} {x : DataW H × List MemPlace} (ht : P.underlying t = some (.slice e)) (hs : P.cellsOf e = s) (hs0 : 0 < s)
    (h : DataW.trod enc P w base spare held fuel t cs = some x) (hz : Sized P t x.1) :
    ∃ A n c vs, cs = [.slice A n c] ∧ n ≤ c ∧ c ≤ maxLen ∧ n * P.bytesOf e ≤ reachBytes ∧ Reads w w.heap.size s A n vs ∧
      ∀ i, i < n → ∃ f y, DataW.trod enc P w base spare held f e ((vs.drop (i * s)).take s) = some y ∧ Sized P e y.1 := by
  rcases open_slice ht h with ⟨rfl, rfl⟩ | ⟨a, len, cap, m, n, D, Pl, rfl, hb, hl, hm, hmm, hx, hi⟩
  · exact ⟨none, 0, 0, [], rfl, Nat.le_refl _, Nat.zero_le _, by simp, Reads.none_, fun i hi => absurd hi (by omega)⟩
  · have hz1 : len * P.bytesOf e ≤ reachBytes := by
      have h1 := hz ((((List.range len).map D).length + ((List.range (m - len)).map fun j => D (len + j)).length) * P.bytesOf e) (by rw [hx]; simp [DataW.weights, ht])
      refine Nat.le_trans (Nat.mul_le_mul_right _ ?_) h1
      simp
    have hz2 : ∀ i, i < len → Sized P e (D i) := by
      intro i hil n hn
      refine hz n ?_
      rw [hx]
      simp only [DataW.weights, ht, List.mem_cons, List.mem_append]
      exact Or.inr (Or.inl (weightsAll_mem (List.mem_map.2 ⟨i, List.mem_range.2 hil, rfl⟩) hn))
    rw [hs] at hi
    have hlm : len ≤ m := by rw [hmm]; split <;> omega
    let vs := (List.range (len * s)).map fun j => (w.cell? (a.add j)).getD undef
    have hvl : vs.length = len * s := by simp [vs]
    have key : ∀ i, i < len → ∃ cs', cs'.length = s ∧ (∀ j, j < s → w.cell? (a.add (i * s + j)) = cs'[j]?) ∧ DataW.trod enc P w base spare held n e cs' = some (D i, Pl i) := by
      intro i hil
      obtain ⟨cs', hc, ht'⟩ := hi i (by omega)
      obtain ⟨_, hcl, hat⟩ := World.cells?_some hc
      exact ⟨cs', hcl, fun j hj => by rw [← add_of_add]; exact hat j hj, ht'⟩
    have hcell : ∀ j, j < len * s → ∃ u, w.cell? (a.add j) = some u := by
      intro j hj
      have hq : j / s < len := by rw [Nat.div_lt_iff_lt_mul hs0]; exact hj
      have hr : j % s < s := Nat.mod_lt _ hs0
      obtain ⟨cs', hcl, hat, _⟩ := key (j / s) hq
      have := hat (j % s) hr
      rw [show j / s * s + j % s = j from by rw [Nat.mul_comm]; exact Nat.div_add_mod j s] at this
      exact ⟨cs'[j % s]'(by omega), by rw [this]; exact List.getElem?_eq_getElem (by omega)⟩
    have hvs : ∀ j, j < len * s → w.cell? (a.add j) = vs[j]? := by
      intro j hj
      obtain ⟨u, hu⟩ := hcell j hj
      simp [vs, hj, hu]
    refine ⟨some a, len, cap, vs, rfl, hl, hm, hz1, ⟨hvl, fun hn => ⟨a, rfl, ?_, fun j u hu => ?_⟩⟩, fun i hil => ⟨n, (D i, Pl i), ?_, hz2 i hil⟩⟩
    · obtain ⟨u, hu⟩ := hcell 0 (Nat.mul_pos hn hs0)
      have := cell_lt hu
      rwa [block_of_add] at this
    · have hj : j < len * s := by
        rw [← hvl]
        rcases Nat.lt_or_ge j vs.length with h | h
        · exact h
        · rw [List.getElem?_eq_none h] at hu; cases hu
      rw [hvs j hj, hu]
    · obtain ⟨cs', hcl, hat, ht'⟩ := key i hil
      rw [← ht']
      congr 1
      have hle : i * s + s ≤ len * s := by
        have : (i + 1) * s ≤ len * s := Nat.mul_le_mul_right _ (by omega)
        rwa [Nat.succ_mul] at this
      apply List.ext_getElem?
      intro j
      rw [List.getElem?_take, List.getElem?_drop]
      split
      · rename_i hj
        rw [← hvs _ (by omega), hat j hj]
      · rw [List.getElem?_eq_none (by omega)]

/-- A slice of integers. -/
theorem open_list {t e : TypeId} {k : IntKind} {fuel : Nat} {cs : List Value} {x : DataW H × List MemPlace} (ht : P.underlying t = some (.slice e)) (he : P.underlying e = some (.int k)) (hs : P.cellsOf e = 1)
    (h : DataW.trod enc P w base spare held fuel t cs = some x) (hz : Sized P t x.1) :
    ∃ A n c, ∃ l : List Int, cs = [.slice A n c] ∧ n ≤ c ∧ c ≤ maxLen ∧ n * P.bytesOf e ≤ reachBytes ∧ l.length = n ∧ Reads w w.heap.size 1 A n (l.map (Value.int k)) ∧ ∀ z ∈ l, (Lit.int k z).wf = true := by
  obtain ⟨A, n, c, vs, rfl, hc, hm, hby, hr, hi⟩ := open_reads ht hs (by omega) h hz
  have hl : vs.length = n := by have := hr.1; omega
  have key : ∀ i, i < n → ∃ z, vs[i]? = some (.int k z) ∧ (Lit.int k z).wf = true := by
    intro i hin
    obtain ⟨f, y, hy, _⟩ := hi i hin
    obtain ⟨z, hz, _, hw⟩ := DataW.trod_int he hy
    have h0 : ((vs.drop (i * 1)).take 1)[0]? = vs[i]? := by simp
    rw [hz] at h0
    exact ⟨z, h0.symm, hw⟩
  refine ⟨A, n, c, vs.map intOf, rfl, hc, hm, hby, by simpa using hl, ?_, ?_⟩
  · have : (vs.map intOf).map (Value.int k) = vs := by
      apply List.ext_getElem?
      intro j
      rcases Nat.lt_or_ge j n with hj | hj
      · obtain ⟨z, hz, _⟩ := key j hj
        simp [hz, intOf]
      · rw [List.getElem?_eq_none (by simp; omega), List.getElem?_eq_none (by omega)]
    rw [this]; exact hr
  · intro z hz
    obtain ⟨j, hj, rfl⟩ := List.mem_iff_getElem.1 hz
    have hj' : j < vs.length := by simpa using hj
    obtain ⟨z, hz, hw⟩ := key j (by omega)
    rw [List.getElem?_eq_getElem hj'] at hz
    have : vs[j] = .int k z := by injection hz
    simpa [this, intOf] using hw

def boolOf : Value → Bool | .bool b => b | _ => false
/-- A slice of bools. -/
theorem open_bools {t e : TypeId} {fuel : Nat} {cs : List Value} {x : DataW H × List MemPlace} (ht : P.underlying t = some (.slice e)) (he : P.underlying e = some .bool) (hs : P.cellsOf e = 1)
    (h : DataW.trod enc P w base spare held fuel t cs = some x) (hz : Sized P t x.1) :
    ∃ A n c, ∃ l : List Bool, cs = [.slice A n c] ∧ n ≤ c ∧ c ≤ maxLen ∧ n * P.bytesOf e ≤ reachBytes ∧ l.length = n ∧ Reads w w.heap.size 1 A n (l.map Value.bool) := by
  obtain ⟨A, n, c, vs, rfl, hc, hm, hby, hr, hi⟩ := open_reads ht hs (by omega) h hz
  have hl : vs.length = n := by have := hr.1; omega
  refine ⟨A, n, c, vs.map boolOf, rfl, hc, hm, hby, by simpa using hl, ?_⟩
  have : (vs.map boolOf).map Value.bool = vs := by
    apply List.ext_getElem?
    intro j
    rcases Nat.lt_or_ge j n with hj | hj
    · obtain ⟨f, y, hy, _⟩ := hi j hj
      obtain ⟨z, hz, _⟩ := DataW.trod_bool he hy
      have h0 : ((vs.drop (j * 1)).take 1)[0]? = vs[j]? := by simp
      rw [hz] at h0
      simp [← h0, boolOf]
    · rw [List.getElem?_eq_none (by simp; omega), List.getElem?_eq_none (by omega)]
  rw [this]; exact hr

theorem wf_u64 {x : Int} (h : (Lit.int .u64 x).wf = true) : ∃ n : Nat, x = n ∧ n < 18446744073709551616 := by
  have hx : 0 ≤ x ∧ x ≤ 18446744073709551615 := by simpa [Lit.wf, IntKind.min, IntKind.max, IntKind.signed, IntKind.bits] using h
  exact ⟨x.toNat, by omega, by omega⟩
theorem wf_i64 {x : Int} (h : (Lit.int .i64 x).wf = true) : -9223372036854775808 ≤ x ∧ x ≤ 9223372036854775807 := by
  simpa [Lit.wf, IntKind.min, IntKind.max, IntKind.signed, IntKind.bits] using h
theorem wf_u8 {x : Int} (h : (Lit.int .u8 x).wf = true) : 0 ≤ x ∧ x ≤ 255 := by
  simpa [Lit.wf, IntKind.min, IntKind.max, IntKind.signed, IntKind.bits] using h

/-! ### What a walk is told of an argument -/
def IsInts (k : IntKind) (w : World) (B : Nat) (v : Value) (l : List Int) : Prop :=
  ∃ A c, v = .slice A l.length c ∧ l.length ≤ c ∧ c ≤ maxLen ∧ l.length ≤ 140737488351232 ∧ Reads w B 1 A l.length (l.map (Value.int k)) ∧ ∀ z ∈ l, (Lit.int k z).wf = true
def IsBools (w : World) (B : Nat) (v : Value) (l : List Bool) : Prop :=
  ∃ A c, v = .slice A l.length c ∧ l.length ≤ c ∧ c ≤ maxLen ∧ l.length ≤ 140737488351232 ∧ Reads w B 1 A l.length (l.map Value.bool)
/-- A slice of words, as natural numbers. -/
def wordV (n : Nat) : Value := .int .u64 n
def IsWords (w : World) (B : Nat) (v : Value) (l : List Nat) : Prop :=
  ∃ A c, v = .slice A l.length c ∧ l.length ≤ c ∧ c ≤ maxLen ∧ l.length ≤ 140737488351232 ∧ Reads w B 1 A l.length (l.map wordV) ∧ ∀ z ∈ l, z < 18446744073709551616
def I64 (x : Int) : Prop := -9223372036854775808 ≤ x ∧ x ≤ 9223372036854775807
def IsBits (w : World) (B : Nat) (v : Value) (n : Int) (l : List Nat) : Prop :=
  ∃ s, v = .agg #[.int .i64 n, s] ∧ I64 n ∧ IsWords w B s l
def IsPacked (w : World) (B : Nat) (v : Value) (n m : Int) (l : List Nat) : Prop :=
  ∃ s, v = .agg #[.int .i64 n, .int .i64 m, s] ∧ I64 n ∧ I64 m ∧ IsWords w B s l

variable {r : Reach} {b0 : Nat} {t e : TypeId} {v : Value} {d : DataW H} {ps : List MemPlace}
theorem arg_u64 (ht : P.underlying t = some (.int .u64)) (hv : Value.okWide P w r b0 t v) (h : DataW.Trod enc P w base spare held t v d ps) (hz : Sized P t d) : ∃ n : Nat, v = .int .u64 n ∧ n < 18446744073709551616 := by
  obtain ⟨x, rfl, _, _, hw⟩ := open_int ht hv h
  obtain ⟨n, rfl, hn⟩ := wf_u64 hw
  exact ⟨n, rfl, hn⟩
theorem arg_i64 (ht : P.underlying t = some (.int .i64)) (hv : Value.okWide P w r b0 t v) (h : DataW.Trod enc P w base spare held t v d ps) (hz : Sized P t d) : ∃ x : Int, v = .int .i64 x ∧ I64 x := by
  obtain ⟨x, rfl, _, _, hw⟩ := open_int ht hv h
  exact ⟨x, rfl, wf_i64 hw⟩
theorem arg_bool (ht : P.underlying t = some .bool) (hv : Value.okWide P w r b0 t v) (h : DataW.Trod enc P w base spare held t v d ps) (hz : Sized P t d) : ∃ x : Bool, v = .bool x := by
  obtain ⟨x, rfl, _, _⟩ := open_bool ht hv h
  exact ⟨x, rfl⟩
theorem arg_string (ht : P.underlying t = some .string) (hv : Value.okWide P w r b0 t v) (h : DataW.Trod enc P w base spare held t v d ps) (hz : Sized P t d) : ∃ s : ByteArray, v = .string s ∧ s.size ≤ 140737488351232 := by
  obtain ⟨x, rfl, rfl, _, hs⟩ := Go.ChangeMaps.open_string ht hv h
  have := hz x.data.toList.length (by simp [DataW.weights])
  exact ⟨x, rfl, by simpa [reachBytes] using this⟩
theorem ints_of {k : IntKind} {fuel : Nat} {x : DataW H × List MemPlace} (ht : P.underlying t = some (.slice e)) (he : P.underlying e = some (.int k)) (hs : P.cellsOf e = 1) (hby : 1 ≤ P.bytesOf e)
    (h : DataW.trod enc P w base spare held fuel t [v] = some x) (hz : Sized P t x.1) : ∃ l, IsInts k w w.heap.size v l := by
  obtain ⟨A, n, c, l, hcs, hc, hm, hb, rfl, hr, hw⟩ := open_list ht he hs h hz
  simp only [List.cons.injEq, and_true] at hcs
  have : l.length * 1 ≤ l.length * P.bytesOf e := Nat.mul_le_mul_left _ hby
  have hr2 : reachBytes = 140737488351232 := rfl
  exact ⟨l, A, c, hcs, hc, hm, by omega, hr, hw⟩
theorem arg_ints {k : IntKind} (ht : P.underlying t = some (.slice e)) (he : P.underlying e = some (.int k)) (hs : P.cellsOf e = 1) (hby : 1 ≤ P.bytesOf e) (hv : Value.okWide P w r b0 t v) (h : DataW.Trod enc P w base spare held t v d ps) (hz : Sized P t d) :
    ∃ l, IsInts k w w.heap.size v l := by
  obtain ⟨a, len, cap, rfl⟩ := okWide_slice ht hv
  obtain ⟨fuel, hf⟩ := h
  exact ints_of ht he hs hby hf hz
theorem words_of_ints {B : Nat} {l : List Int} (h : IsInts .u64 w B v l) : ∃ ws, IsWords w B v ws := by
  obtain ⟨A, c, rfl, hc, hm, hb, hr, hw⟩ := h
  refine ⟨l.map Int.toNat, A, c, by simp, by simpa using hc, hm, by simpa using hb, ?_, ?_⟩
  · have : (l.map Int.toNat).map wordV = l.map (Value.int .u64) := by
      rw [List.map_map]
      refine List.map_congr_left fun z hz => ?_
      obtain ⟨n, rfl, _⟩ := wf_u64 (hw z hz)
      rfl
    rw [this, List.length_map]; exact hr
  · intro z hz
    obtain ⟨y, hy, rfl⟩ := List.mem_map.1 hz
    obtain ⟨n, rfl, hn⟩ := wf_u64 (hw y hy)
    simpa using hn
theorem arg_words (ht : P.underlying t = some (.slice e)) (he : P.underlying e = some (.int .u64)) (hs : P.cellsOf e = 1) (hby : 1 ≤ P.bytesOf e) (hv : Value.okWide P w r b0 t v) (h : DataW.Trod enc P w base spare held t v d ps) (hz : Sized P t d) :
    ∃ l, IsWords w w.heap.size v l := by
  obtain ⟨l, hl⟩ := arg_ints ht he hs hby hv h hz
  exact words_of_ints hl
theorem arg_bools (ht : P.underlying t = some (.slice e)) (he : P.underlying e = some .bool) (hs : P.cellsOf e = 1) (hby : 1 ≤ P.bytesOf e) (hv : Value.okWide P w r b0 t v) (h : DataW.Trod enc P w base spare held t v d ps) (hz : Sized P t d) :
    ∃ l, IsBools w w.heap.size v l := by
  obtain ⟨a, len, cap, rfl⟩ := okWide_slice ht hv
  obtain ⟨fuel, hf⟩ := h
  obtain ⟨A, n, c, l, hcs, hc, hm, hb, rfl, hr⟩ := open_bools ht he hs hf hz
  simp only [Value.cells, List.cons.injEq, and_true] at hcs
  have : l.length * 1 ≤ l.length * P.bytesOf e := Nat.mul_le_mul_left _ hby
  have hr2 : reachBytes = 140737488351232 := rfl
  exact ⟨l, A, c, hcs, hc, hm, by omega, hr⟩
theorem arg_bits {f0 f1 : Field} {u : TypeId} (ht : P.underlying t = some (.struct #[f0, f1])) (h0 : P.underlying f0.type = some (.int .i64)) (h1 : P.underlying f1.type = some (.slice u)) (hu : P.underlying u = some (.int .u64)) (hs : P.cellsOf u = 1) (hby : 1 ≤ P.bytesOf u)
    (hone : oneCellFields P #[f0, f1] = true) (hC : P.cellsOf t = 2) (hv : Value.okWide P w r b0 t v) (h : DataW.Trod enc P w base spare held t v d ps) (hz : Sized P t d) :
    ∃ n l, IsBits w w.heap.size v n l := by
  obtain ⟨v0, v1, y0, y1, n, rfl, rfl, _, t0, t1⟩ := open_agg2 ht hone hC hv h
  obtain ⟨x, hx, _, hw⟩ := DataW.trod_int h0 t0
  simp only [List.cons.injEq, and_true] at hx
  subst hx
  obtain ⟨l, hl⟩ := ints_of h1 hu hs hby t1 (hz.field ht (j := 1) rfl rfl)
  obtain ⟨ws, hws⟩ := words_of_ints hl
  exact ⟨x, ws, v1, rfl, wf_i64 hw, hws⟩
theorem arg_packed {f0 f1 f2 : Field} {u : TypeId} (ht : P.underlying t = some (.struct #[f0, f1, f2])) (h0 : P.underlying f0.type = some (.int .i64)) (h0' : P.underlying f1.type = some (.int .i64)) (h1 : P.underlying f2.type = some (.slice u)) (hu : P.underlying u = some (.int .u64)) (hs : P.cellsOf u = 1) (hby : 1 ≤ P.bytesOf u)
    (hone : oneCellFields P #[f0, f1, f2] = true) (hC : P.cellsOf t = 3) (hv : Value.okWide P w r b0 t v) (h : DataW.Trod enc P w base spare held t v d ps) (hz : Sized P t d) :
    ∃ n m l, IsPacked w w.heap.size v n m l := by
  obtain ⟨v0, v1, v2, y0, y1, y2, n, rfl, rfl, _, t0, t1, t2⟩ := open_agg3 ht hone hC hv h
  obtain ⟨x, hx, _, hw⟩ := DataW.trod_int h0 t0
  simp only [List.cons.injEq, and_true] at hx
  subst hx
  obtain ⟨z, hz', _, hw'⟩ := DataW.trod_int h0' t1
  simp only [List.cons.injEq, and_true] at hz'
  subst hz'
  obtain ⟨l, hl⟩ := ints_of h1 hu hs hby t2 (hz.field ht (j := 2) rfl rfl)
  obtain ⟨ws, hws⟩ := words_of_ints hl
  exact ⟨x, z, ws, v2, rfl, wf_i64 hw, wf_i64 hw', hws⟩
end
section
variable {k : IntKind} {w w' : World} {B B' : Nat} {v : Value} {l : List Int} {ws : List Nat} {lb : List Bool}
theorem IsInts.below (h : IsInts k w B v l) (hb : Below B w w') : IsInts k w' B v l := by
  obtain ⟨A, c, rfl, h1, h2, h5, h3, h4⟩ := h
  exact ⟨A, c, rfl, h1, h2, h5, h3.below hb, h4⟩
theorem IsWords.below (h : IsWords w B v ws) (hb : Below B w w') : IsWords w' B v ws := by
  obtain ⟨A, c, rfl, h1, h2, h5, h3, h4⟩ := h
  exact ⟨A, c, rfl, h1, h2, h5, h3.below hb, h4⟩
theorem IsBools.below (h : IsBools w B v lb) (hb : Below B w w') : IsBools w' B v lb := by
  obtain ⟨A, c, rfl, h1, h2, h5, h3⟩ := h
  exact ⟨A, c, rfl, h1, h2, h5, h3.below hb⟩
theorem IsInts.more (h : IsInts k w B v l) (hB : B ≤ B') : IsInts k w B' v l := by
  obtain ⟨A, c, rfl, h1, h2, h5, h3, h4⟩ := h
  exact ⟨A, c, rfl, h1, h2, h5, h3.more hB, h4⟩
theorem IsWords.more (h : IsWords w B v ws) (hB : B ≤ B') : IsWords w B' v ws := by
  obtain ⟨A, c, rfl, h1, h2, h5, h3, h4⟩ := h
  exact ⟨A, c, rfl, h1, h2, h5, h3.more hB, h4⟩
theorem IsBits.below {n : Int} (h : IsBits w B v n ws) (hb : Below B w w') : IsBits w' B v n ws := by
  obtain ⟨s, rfl, h1, h2⟩ := h
  exact ⟨s, rfl, h1, h2.below hb⟩
theorem IsBits.more {n : Int} (h : IsBits w B v n ws) (hB : B ≤ B') : IsBits w B' v n ws := by
  obtain ⟨s, rfl, h1, h2⟩ := h
  exact ⟨s, rfl, h1, h2.more hB⟩
theorem IsPacked.below {n m : Int} (h : IsPacked w B v n m ws) (hb : Below B w w') : IsPacked w' B v n m ws := by
  obtain ⟨s, rfl, h1, h1', h2⟩ := h
  exact ⟨s, rfl, h1, h1', h2.below hb⟩
end

/-! ### append of one element onto a row of the call's own -/
/-- What the program's tables say of a slice type T and its element type E. -/
structure El (P : Program) (T E : TypeId) (z : Value) (size bytes : Nat) : Prop where
  ht : P.underlying T = some (.slice E)
  hi : (P.info? E).map (fun i => (i.zero, i.size, i.bytes)) = some (some z, size, bytes)
  hz : z.cells.size = size
  hs : 0 < size
section
variable {P : Program} {w : World}
theorem El.info {T E : TypeId} {z : Value} {size bytes : Nat} (h : El P T E z size bytes) : ∃ i, P.info? E = some i ∧ i.zero = some z ∧ i.size = size ∧ i.bytes = bytes := by
  have := h.hi
  cases hi : P.info? E with
  | none => rw [hi] at this; simp at this
  | some i =>
    rw [hi] at this
    simp at this
    exact ⟨i, rfl, this.1, this.2.1, this.2.2⟩
/-- append(s, x), x one element of one cell: it lies in the new block g. -/
theorem wpList_push {T E : TypeId} {z : Value} {bytes : Nat} (el : El P T E z 1 bytes) {ops : Array Oper} {rest : List Oper} {o : Oper} {a : Act} {Q : Exit → Act → World → Prop} (hgd : o.guard = none) (s x : Operand)
    (ho : o.op = .call { callee := .builtin .append, args := #[s, x], argTypes := #[T, T] })
    (base : Nat) (v : Value) (n : Nat) (xs : List Value) (hown : w.ownsRow base E 1 v n xs) (hs : a.eval s = v)
    (g c : Nat) (u : Value) (hx : a.eval x = .slice (some ⟨g, 0, none⟩) 1 c) (hu : w.cell? ⟨g, 0, none⟩ = some u) (h1 : u.oneCell' = true)
    (h63 : n + 1 ≤ 140737488355328) (hbytes : (n + 1) * bytes ≤ 140737488355328) (hbase : base ≤ w.heap.size)
    (h : ∀ v' w', w'.ownsRow base E 1 v' (n + 1) (xs ++ [u]) → w.grownBy w' v.ownBlock → wpList P ops Q rest (a.put o.dst v') w') : wpList P ops Q (o :: rest) a w := by
  obtain ⟨i, hi, hz, hz1, hz2⟩ := el.info
  refine wpList_append_own w hgd s x T ho base E i z 1 bytes el.ht hi hz hz1 hz2 el.hz (by omega) v n xs hs hown ⟨g, 0, none⟩ 1 c [u] hx rfl ?_ ?_ (by unfold maxLen; omega) hbytes hbase fun v' w' h2 h3 _ => h v' w' h2 h3
  · intro j y hj
    cases j with
    | zero => simp at hj; subst hj; exact hu
    | succ j => simp at hj
  · intro y hy
    simp at hy; subst hy; exact h1
/-- What is kept below B over such an append. -/
theorem below_push {B : Nat} {w0 w w' : World} {base : Nat} {E : TypeId} {size n : Nat} {v : Value} {xs : List Value} (hb : Below B w0 w) (hown : w.ownsRow base E size v n xs) (hB : B ≤ base) (hz : B ≤ w.heap.size) (hg : w.grownBy w' v.ownBlock) : Below B w0 w' :=
  hb.grown hg hz fun k hk => Nat.le_trans hB (hown.lt k hk).1
theorem own_bools {base E n : Nat} {v : Value} {l : List Bool} (h : w.ownsRow base E 1 v n (l.map Value.bool)) (hn : l.length ≤ 140737488351232) : IsBools w w.heap.size v l := by
  have hl : l.length = n := by have := h.1; simpa using this
  subst hl
  rcases h.2 with ⟨rfl, h0⟩ | ⟨g, cap, cur, rfl, _, _, hnc, hcm, _⟩
  · exact ⟨none, 0, by rw [h0], by omega, by omega, hn, h.1, fun hp => absurd hp (by omega)⟩
  · exact ⟨_, cap, rfl, hnc, hcm, hn, Reads.of_own h⟩
theorem own_ints {k : IntKind} {base E n : Nat} {v : Value} {l : List Int} (h : w.ownsRow base E 1 v n (l.map (Value.int k))) (hn : l.length ≤ 140737488351232) (hw : ∀ z ∈ l, (Lit.int k z).wf = true) : IsInts k w w.heap.size v l := by
  have hl : l.length = n := by have := h.1; simpa using this
  subst hl
  rcases h.2 with ⟨rfl, h0⟩ | ⟨g, cap, cur, rfl, _, _, hnc, hcm, _⟩
  · exact ⟨none, 0, by rw [h0], by omega, by omega, hn, ⟨h.1, fun hp => absurd hp (by omega)⟩, hw⟩
  · exact ⟨_, cap, rfl, hnc, hcm, hn, Reads.of_own h, hw⟩
theorem own_words {base E n : Nat} {v : Value} {l : List Nat} (h : w.ownsRow base E 1 v n (l.map wordV)) (hn : l.length ≤ 140737488351232) (hw : ∀ z ∈ l, z < 18446744073709551616) : IsWords w w.heap.size v l := by
  have hl : l.length = n := by have := h.1; simpa using this
  subst hl
  rcases h.2 with ⟨rfl, h0⟩ | ⟨g, cap, cur, rfl, _, _, hnc, hcm, _⟩
  · exact ⟨none, 0, by rw [h0], by omega, by omega, hn, ⟨h.1, fun hp => absurd hp (by omega)⟩, hw⟩
  · exact ⟨_, cap, rfl, hnc, hcm, hn, Reads.of_own h, hw⟩
theorem bools_at {B : Nat} {A : Option Addr} {l : List Bool} (hr : Reads w B 1 A l.length (l.map Value.bool)) (hn : 0 < l.length) :
    ∃ b off, A = some ⟨b, off, none⟩ ∧ b < B ∧ ∀ k, k < l.length → w.cell? ⟨b, off + k, none⟩ = some (.bool (l.getD k false)) := by
  obtain ⟨b, off, e, hb, hc⟩ := hr.addr hn
  refine ⟨b, off, e, hb, fun k hk => ?_⟩
  obtain ⟨u, hx, hu⟩ := hc k hk
  rw [hu, ← hx]
  simp [hk]
theorem ints_cells {k : IntKind} {B : Nat} {A : Option Addr} {l : List Int} (hr : Reads w B 1 A l.length (l.map (Value.int k))) (hn : 0 < l.length) :
    ∃ b off, A = some ⟨b, off, none⟩ ∧ b < B ∧ ∀ j, j < l.length → w.cell? ⟨b, off + j, none⟩ = some (.int k (l.getD j 0)) := by
  obtain ⟨b, off, e, hb, hc⟩ := hr.addr hn
  refine ⟨b, off, e, hb, fun j hj => ?_⟩
  obtain ⟨u, hx, hu⟩ := hc j hj
  rw [hu, ← hx]
  simp [hj]
end

/-! ### make([]T, n) -/
theorem run_make_rowN {P : Program} (t e : TypeId) (i : TypeInfo) (z : Value) (ht : P.underlying t = some (.slice e)) (hi : P.info? e = some i) (hz : i.zero = some z)
    (kl kc : IntKind) (n c : Nat) (hnc : n ≤ c) (hbytes : i.bytes * c ≤ 281474976710656) (h63 : c ≤ 9223372036854775807) (w : World) :
    (Instr.makeSlice t (.int kl (n : Int)) (.int kc (c : Int))).run P w = .ok (.slice (some ⟨w.heap.size, 0, none⟩) n c) (w.alloc (.cells (madeCells z.cells (c * i.size)) e)) := by
  have hb : (i.bytes : Int) * (c : Int) ≤ 281474976710656 := by
    have h : ((i.bytes * c : Nat) : Int) ≤ 281474976710656 := by omega
    rwa [Int.natCast_mul] at h
  have hr := run_make (P := P) w t e i z ht hi hz kl kc n c (by omega) (by omega) hb (by omega)
  simp only [Int.toNat_natCast] at hr
  exact hr
/-- make([]T, n), T one cell: a row of n zeros. -/
theorem run_make1 {P : Program} {T E : TypeId} {z : Value} {bytes : Nat} (el : El P T E z 1 bytes) (h1 : z.cells = #[z]) (x : Int) (n : Nat) (hx : x = n) (hn : bytes * n ≤ 281474976710656) (h63 : n ≤ 9223372036854775807) (w : World) :
    (Instr.makeSlice T (.int .i64 x) (.int .i64 x)).run P w = .ok (.slice (some ⟨w.heap.size, 0, none⟩) n n) (w.alloc (.cells (List.replicate n z).toArray E)) := by
  subst hx
  obtain ⟨i, hi, hz, hz1, hz2⟩ := el.info
  rw [run_make_rowN T E i z el.ht hi hz .i64 .i64 n n (Nat.le_refl _) (by rw [hz2]; exact hn) h63 w, hz1, h1]
  congr 3
  have : madeCells #[z] (n * 1) = (List.replicate n z).toArray := by
    unfold madeCells
    apply Array.ext
    · simp
    · intro j h1 h2
      have : j % 1 = 0 := Nat.mod_one j
      simp [this]
  rw [this]
theorem own_shape {w : World} {base : Nat} {e : TypeId} {size n : Nat} {v : Value} {xs : List Value} (h : w.ownsRow base e size v n xs) : ∃ A c, v = .slice A n c := by
  rcases ownsRow_forms h with ⟨rfl, rfl⟩ | ⟨g, cap, rfl⟩
  · exact ⟨_, _, rfl⟩
  · exact ⟨_, _, rfl⟩
theorem own_ne {w : World} {base k : Nat} {e : TypeId} {size n : Nat} {v : Value} {xs : List Value} (h : w.ownsRow base e size v n xs) (hk : k < base) : v.ownBlock ≠ some k := fun e => by
  have := (h.lt k e).1; omega
end Go.Dam

/-
  Plain arithmetic on words of 64 bits, no program in sight: how many bits are set (by halves, as math/bits counts them), and a word turned round. Conditions: each word is below 2 to the 64th.
-/
namespace Go.Dam
set_option linter.unusedVariables false
open Go

/-- How many of the bits below place i are set. -/
def cnt (n : Nat) : Nat → Nat
  | 0 => 0
  | i + 1 => cnt n i + n / 2 ^ i % 2
theorem cnt_le (n i : Nat) : cnt n i ≤ i := by
  induction i with
  | zero => exact Nat.le_refl _
  | succ i ih => simp only [cnt]; have := Nat.mod_lt (n / 2 ^ i) (by omega : 0 < 2); omega
theorem cnt_mono (n : Nat) {i j : Nat} (h : i ≤ j) : cnt n i ≤ cnt n j := by
  induction j with
  | zero => simp [Nat.le_zero.1 h]
  | succ j ih =>
    rcases Nat.lt_or_ge i (j + 1) with hlt | hge
    · have := ih (by omega); simp only [cnt]; omega
    · rw [Nat.le_antisymm h hge]; exact Nat.le_refl _
theorem div_pow_add (n i j : Nat) : n / 2 ^ (i + j) = n / 2 ^ i / 2 ^ j := by rw [Nat.pow_add, Nat.div_div_eq_div_mul]
theorem cnt_add (n i j : Nat) : cnt n (i + j) = cnt n i + cnt (n / 2 ^ i) j := by
  induction j with
  | zero => simp [cnt]
  | succ j ih =>
    show cnt n (i + j) + n / 2 ^ (i + j) % 2 = _
    rw [ih, div_pow_add]; simp only [cnt]; omega
theorem cnt_mod (n : Nat) {i j : Nat} (h : i ≤ j) : cnt (n % 2 ^ j) i = cnt n i := by
  induction i with
  | zero => rfl
  | succ i ih =>
    simp only [cnt]
    rw [ih (by omega)]
    have : n % 2 ^ j / 2 ^ i % 2 = n / 2 ^ i % 2 := by
      have h1 : (n % 2 ^ j).testBit i = n.testBit i := by rw [Nat.testBit_mod_two_pow]; simp; intro; omega
      simp only [Nat.testBit, Nat.shiftRight_eq_div_pow, Nat.one_and_eq_mod_two] at h1
      have a := Nat.mod_two_eq_zero_or_one (n % 2 ^ j / 2 ^ i)
      have b := Nat.mod_two_eq_zero_or_one (n / 2 ^ i)
      rcases a with a | a <;> rcases b with b | b <;> simp [a, b] at h1 ⊢
    rw [this]
theorem cnt_zero (i : Nat) : cnt 0 i = 0 := by
  induction i with
  | zero => rfl
  | succ i ih => simp [cnt, ih]

/-- '&' part by part. -/
theorem and_parts (k a b c d : Nat) (ha : a < 2 ^ k) (hc : c < 2 ^ k) : (a + 2 ^ k * b) &&& (c + 2 ^ k * d) = (a &&& c) + 2 ^ k * (b &&& d) := by
  have hac : (a &&& c) < 2 ^ k := Nat.and_lt_two_pow _ hc
  apply Nat.eq_of_testBit_eq
  intro i
  rw [Nat.testBit_and, Nat.add_comm a, Nat.add_comm c, Nat.add_comm (a &&& c), Nat.testBit_two_pow_mul_add _ ha, Nat.testBit_two_pow_mul_add _ hc, Nat.testBit_two_pow_mul_add _ hac]
  split <;> simp [Nat.testBit_and]

/-! ### math/bits.OnesCount64's steps -/
def oc1 (n : Nat) : Nat := (n / 2 &&& 6148914691236517205) + (n &&& 6148914691236517205)
def oc2 (n : Nat) : Nat := (n / 4 &&& 3689348814741910323) + (n &&& 3689348814741910323)
def oc3 (n : Nat) : Nat := (n / 16 + n) &&& 1085102592571150095
def oc4 (n : Nat) : Nat := n + n / 256
def oc5 (n : Nat) : Nat := n + n / 65536
def oc6 (n : Nat) : Nat := n + n / 4294967296


def rep (d : Nat) : Nat → Nat
  | 0 => 0
  | m + 1 => d + 256 * rep d m
/-- Each byte is put through f. -/
def bytewise (f : Nat → Nat) : Nat → Nat → Nat
  | 0, _ => 0
  | m + 1, n => f (n % 256) + 256 * bytewise f m (n / 256)
theorem bytewise_comp (f g : Nat → Nat) (hg : ∀ b, b < 256 → g b < 256) (m n : Nat) : bytewise f m (bytewise g m n) = bytewise (fun b => f (g b)) m n := by
  induction m generalizing n with
  | zero => rfl
  | succ m ih =>
    have hb := hg (n % 256) (Nat.mod_lt _ (by omega))
    simp only [bytewise]
    rw [show (g (n % 256) + 256 * bytewise g m (n / 256)) % 256 = g (n % 256) from by omega, show (g (n % 256) + 256 * bytewise g m (n / 256)) / 256 = bytewise g m (n / 256) from by omega, ih]
theorem bytewise_congr {f g : Nat → Nat} (h : ∀ b, b < 256 → f b = g b) (m n : Nat) : bytewise f m n = bytewise g m n := by
  induction m generalizing n with
  | zero => rfl
  | succ m ih => simp only [bytewise]; rw [h _ (Nat.mod_lt _ (by omega)), ih]
theorem low85 : ∀ r < 256, ∀ b < 2, (r / 2 + 128 * b) &&& 85 = r / 2 &&& 85 := by decide +kernel
theorem low51 : ∀ r < 256, ∀ b < 4, (r / 4 + 64 * b) &&& 51 = r / 4 &&& 51 := by decide +kernel
theorem oc1_bytes (m n : Nat) : (n / 2 &&& rep 85 m) + (n &&& rep 85 m) = bytewise (fun b => (b / 2 &&& 85) + (b &&& 85)) m n := by
  induction m generalizing n with
  | zero => simp [rep, bytewise]
  | succ m ih =>
    simp only [rep, bytewise]
    rw [← ih (n / 256)]
    have h1 : n &&& (85 + 256 * rep 85 m) = (n % 256 &&& 85) + 256 * (n / 256 &&& rep 85 m) := by
      have := and_parts 8 (n % 256) (n / 256) 85 (rep 85 m) (Nat.mod_lt _ (by omega)) (by omega)
      rwa [show n % 256 + 2 ^ 8 * (n / 256) = n from by omega] at this
    have h2 : n / 2 &&& (85 + 256 * rep 85 m) = (n % 256 / 2 &&& 85) + 256 * (n / 256 / 2 &&& rep 85 m) := by
      have := and_parts 8 (n % 256 / 2 + 128 * (n / 256 % 2)) (n / 256 / 2) 85 (rep 85 m) (by omega) (by omega)
      rw [low85 _ (Nat.mod_lt _ (by omega)) _ (Nat.mod_lt _ (by omega))] at this
      rwa [show n % 256 / 2 + 128 * (n / 256 % 2) + 2 ^ 8 * (n / 256 / 2) = n / 2 from by omega] at this
    rw [h1, h2]; omega
theorem oc2_bytes (m n : Nat) : (n / 4 &&& rep 51 m) + (n &&& rep 51 m) = bytewise (fun b => (b / 4 &&& 51) + (b &&& 51)) m n := by
  induction m generalizing n with
  | zero => simp [rep, bytewise]
  | succ m ih =>
    simp only [rep, bytewise]
    rw [← ih (n / 256)]
    have h1 : n &&& (51 + 256 * rep 51 m) = (n % 256 &&& 51) + 256 * (n / 256 &&& rep 51 m) := by
      have := and_parts 8 (n % 256) (n / 256) 51 (rep 51 m) (Nat.mod_lt _ (by omega)) (by omega)
      rwa [show n % 256 + 2 ^ 8 * (n / 256) = n from by omega] at this
    have h2 : n / 4 &&& (51 + 256 * rep 51 m) = (n % 256 / 4 &&& 51) + 256 * (n / 256 / 4 &&& rep 51 m) := by
      have := and_parts 8 (n % 256 / 4 + 64 * (n / 256 % 4)) (n / 256 / 4) 51 (rep 51 m) (by omega) (by omega)
      rw [low51 _ (Nat.mod_lt _ (by omega)) _ (Nat.mod_lt _ (by omega))] at this
      rwa [show n % 256 / 4 + 64 * (n / 256 % 4) + 2 ^ 8 * (n / 256 / 4) = n / 4 from by omega] at this
    rw [h1, h2]; omega
theorem oc3_bytes (f : Nat → Nat) (hf : ∀ b, b < 256 → f b ≤ 68 ∧ f b % 16 ≤ 4) (m n : Nat) : (bytewise f m n / 16 + bytewise f m n) &&& rep 15 m = bytewise (fun b => f b / 16 + f b &&& 15) m n := by
  induction m generalizing n with
  | zero => simp [rep, bytewise]
  | succ m ih =>
    have hb := hf (n % 256) (Nat.mod_lt _ (by omega))
    have hq : bytewise f m (n / 256) % 16 ≤ 4 := by
      cases m with
      | zero => simp [bytewise]
      | succ m => have := (hf (n / 256 % 256) (Nat.mod_lt _ (by omega))).2; simp only [bytewise]; omega
    simp only [rep, bytewise]
    rw [← ih (n / 256)]
    generalize hy : bytewise f m (n / 256) = q at *
    have := and_parts 8 (f (n % 256) / 16 + 16 * (q % 16) + f (n % 256)) (q / 16 + q) 15 (rep 15 m) (by omega) (by omega)
    rw [show f (n % 256) / 16 + 16 * (q % 16) + f (n % 256) + 2 ^ 8 * (q / 16 + q) = (f (n % 256) + 256 * q) / 16 + (f (n % 256) + 256 * q) from by omega] at this
    rw [show (15 + 256 * rep 15 m) = 15 + 2 ^ 8 * rep 15 m from rfl, this]
    congr 1
    rw [Nat.and_two_pow_sub_one_eq_mod _ 4, Nat.and_two_pow_sub_one_eq_mod _ 4]; omega
theorem oc_byte : ∀ b < 256, (((b / 2 &&& 85) + (b &&& 85)) / 4 &&& 51) + ((b / 2 &&& 85) + (b &&& 85) &&& 51) ≤ 68 ∧ ((((b / 2 &&& 85) + (b &&& 85)) / 4 &&& 51) + ((b / 2 &&& 85) + (b &&& 85) &&& 51)) % 16 ≤ 4 := by decide +kernel
theorem oc_byte' : ∀ b < 256, ((((b / 2 &&& 85) + (b &&& 85)) / 4 &&& 51) + ((b / 2 &&& 85) + (b &&& 85) &&& 51)) / 16 + ((((b / 2 &&& 85) + (b &&& 85)) / 4 &&& 51) + ((b / 2 &&& 85) + (b &&& 85) &&& 51)) &&& 15 = cnt b 8 := by decide +kernel
theorem oc_byte1 : ∀ b < 256, (b / 2 &&& 85) + (b &&& 85) < 256 := by decide +kernel
theorem oc123 (n : Nat) : oc3 (oc2 (oc1 n)) = bytewise (fun b => cnt b 8) 8 n := by
  have h1 : oc1 n = _ := oc1_bytes 8 n
  have h2 : oc2 (oc1 n) = _ := oc2_bytes 8 (oc1 n)
  rw [h1, bytewise_comp _ _ oc_byte1] at h2
  have h3 : oc3 (oc2 (oc1 n)) = (oc2 (oc1 n) / 16 + oc2 (oc1 n)) &&& rep 15 8 := rfl
  rw [h1, h2, oc3_bytes _ oc_byte] at h3
  rw [h1, h2, h3]
  exact bytewise_congr oc_byte' 8 n
theorem cnt_byte (n i : Nat) : cnt n (8 + i) = cnt (n % 256) 8 + cnt (n / 256) i := by
  rw [cnt_add, ← cnt_mod n (Nat.le_refl 8)]
theorem div_low (a b B : Nat) (h : a < B) : (a + B * b) / B = b := by
  rw [Nat.add_mul_div_left _ _ (by omega), Nat.div_eq_of_lt h, Nat.zero_add]
theorem half8 (p0 p1 p2 p3 p4 p5 p6 p7 : Nat) (h0 : p0 ≤ 8) (h1 : p1 ≤ 8) (h2 : p2 ≤ 8) (h3 : p3 ≤ 8) (h4 : p4 ≤ 8) (h5 : p5 ≤ 8) (h6 : p6 ≤ 8) (h7 : p7 ≤ 8) :
    p0 + 256 * (p1 + 256 * (p2 + 256 * (p3 + 256 * (p4 + 256 * (p5 + 256 * (p6 + 256 * (p7 + 256 * 0))))))) + (p0 + 256 * (p1 + 256 * (p2 + 256 * (p3 + 256 * (p4 + 256 * (p5 + 256 * (p6 + 256 * (p7 + 256 * 0)))))))) / 256 =
    (p0 + p1) + 256 * ((p1 + p2) + 256 * ((p2 + p3) + 256 * ((p3 + p4) + 256 * ((p4 + p5) + 256 * ((p5 + p6) + 256 * ((p6 + p7) + 256 * p7)))))) := by
  rw [div_low _ _ 256 (by omega)]; omega
theorem half8b (p0 p1 p2 p3 p4 p5 p6 p7 : Nat) (h0 : p0 ≤ 16) (h1 : p1 ≤ 16) (h2 : p2 ≤ 16) (h3 : p3 ≤ 16) (h4 : p4 ≤ 16) (h5 : p5 ≤ 16) (h6 : p6 ≤ 16) (h7 : p7 ≤ 16) :
    p0 + 256 * (p1 + 256 * (p2 + 256 * (p3 + 256 * (p4 + 256 * (p5 + 256 * (p6 + 256 * p7)))))) + (p0 + 256 * (p1 + 256 * (p2 + 256 * (p3 + 256 * (p4 + 256 * (p5 + 256 * (p6 + 256 * p7))))))) / 65536 =
    (p0 + p2) + 256 * ((p1 + p3) + 256 * ((p2 + p4) + 256 * ((p3 + p5) + 256 * ((p4 + p6) + 256 * ((p5 + p7) + 256 * (p6 + 256 * p7)))))) := by
  have : p0 + 256 * (p1 + 256 * (p2 + 256 * (p3 + 256 * (p4 + 256 * (p5 + 256 * (p6 + 256 * p7)))))) = (p0 + 256 * p1) + 65536 * (p2 + 256 * (p3 + 256 * (p4 + 256 * (p5 + 256 * (p6 + 256 * p7))))) := by omega
  rw [this, div_low _ _ 65536 (by omega)]; omega
theorem half8c (p0 p1 p2 p3 p4 p5 p6 p7 : Nat) (h0 : p0 ≤ 32) (h1 : p1 ≤ 32) (h2 : p2 ≤ 32) (h3 : p3 ≤ 32) (h4 : p4 ≤ 32) (h5 : p5 ≤ 32) (h6 : p6 ≤ 32) (h7 : p7 ≤ 32) :
    (p0 + 256 * (p1 + 256 * (p2 + 256 * (p3 + 256 * (p4 + 256 * (p5 + 256 * (p6 + 256 * p7)))))) + (p0 + 256 * (p1 + 256 * (p2 + 256 * (p3 + 256 * (p4 + 256 * (p5 + 256 * (p6 + 256 * p7))))))) / 4294967296) % 128 = p0 + p4 := by
  have : p0 + 256 * (p1 + 256 * (p2 + 256 * (p3 + 256 * (p4 + 256 * (p5 + 256 * (p6 + 256 * p7)))))) = (p0 + 256 * (p1 + 256 * (p2 + 256 * p3))) + 4294967296 * (p4 + 256 * (p5 + 256 * (p6 + 256 * p7))) := by omega
  rw [this, div_low _ _ 4294967296 (by omega)]; omega
theorem ones_count (n : Nat) : oc6 (oc5 (oc4 (oc3 (oc2 (oc1 n))))) % 128 = cnt n 64 := by
  have key : cnt n 64 = _ := cnt_byte n 56
  rw [show (56 : Nat) = 8 + 48 from rfl, cnt_byte, show (48 : Nat) = 8 + 40 from rfl, cnt_byte, show (40 : Nat) = 8 + 32 from rfl, cnt_byte, show (32 : Nat) = 8 + 24 from rfl, cnt_byte, show (24 : Nat) = 8 + 16 from rfl, cnt_byte,
    show (16 : Nat) = 8 + 8 from rfl, cnt_byte, show cnt (n / 256 / 256 / 256 / 256 / 256 / 256 / 256) 8 = cnt (n / 256 / 256 / 256 / 256 / 256 / 256 / 256 % 256) 8 from (cnt_mod _ (Nat.le_refl 8)).symm] at key
  rw [key, oc123]
  simp only [bytewise, oc4, oc5, oc6]
  have b0 := cnt_le (n % 256) 8
  have b1 := cnt_le (n / 256 % 256) 8
  have b2 := cnt_le (n / 256 / 256 % 256) 8
  have b3 := cnt_le (n / 256 / 256 / 256 % 256) 8
  have b4 := cnt_le (n / 256 / 256 / 256 / 256 % 256) 8
  have b5 := cnt_le (n / 256 / 256 / 256 / 256 / 256 % 256) 8
  have b6 := cnt_le (n / 256 / 256 / 256 / 256 / 256 / 256 % 256) 8
  have b7 := cnt_le (n / 256 / 256 / 256 / 256 / 256 / 256 / 256 % 256) 8
  generalize cnt (n % 256) 8 = p0 at *
  generalize cnt (n / 256 % 256) 8 = p1 at *
  generalize cnt (n / 256 / 256 % 256) 8 = p2 at *
  generalize cnt (n / 256 / 256 / 256 % 256) 8 = p3 at *
  generalize cnt (n / 256 / 256 / 256 / 256 % 256) 8 = p4 at *
  generalize cnt (n / 256 / 256 / 256 / 256 / 256 % 256) 8 = p5 at *
  generalize cnt (n / 256 / 256 / 256 / 256 / 256 / 256 % 256) 8 = p6 at *
  generalize cnt (n / 256 / 256 / 256 / 256 / 256 / 256 / 256 % 256) 8 = p7 at *
  clear key
  have e1 := half8 p0 p1 p2 p3 p4 p5 p6 p7 b0 b1 b2 b3 b4 b5 b6 b7
  rw [e1]
  clear e1
  have e2 := half8b (p0 + p1) (p1 + p2) (p2 + p3) (p3 + p4) (p4 + p5) (p5 + p6) (p6 + p7) p7 (by omega) (by omega) (by omega) (by omega) (by omega) (by omega) (by omega) (by omega)
  rw [e2]
  clear e2
  rw [half8c (p0 + p1 + (p2 + p3)) (p1 + p2 + (p3 + p4)) (p2 + p3 + (p4 + p5)) (p3 + p4 + (p5 + p6)) (p4 + p5 + (p6 + p7)) (p5 + p6 + p7) (p6 + p7) p7 (by omega) (by omega) (by omega) (by omega) (by omega) (by omega) (by omega) (by omega)]
  omega

/-! ### math/bits.Reverse64 -/
def rv (k m n : Nat) : Nat := (n / 2 ^ k &&& m) ||| ((n &&& m) * 2 ^ k)
def Swaps (k m : Nat) : Prop := ∀ i < 64, (m.testBit i = true → i ^^^ k = i + k ∧ i + k < 64 ∧ (k ≤ i → m.testBit (i - k) = false)) ∧ (m.testBit i = false → k ≤ i ∧ m.testBit (i - k) = true ∧ i ^^^ k = i - k)
theorem rv_bit {k m : Nat} (h : Swaps k m) (n i : Nat) (hi : i < 64) : (rv k m n).testBit i = n.testBit (i ^^^ k) := by
  obtain ⟨h1, h2⟩ := h i hi
  unfold rv
  rw [Nat.testBit_or, Nat.testBit_and, Nat.testBit_mul_two_pow, Nat.testBit_and, Nat.testBit_div_two_pow]
  cases hm : m.testBit i with
  | true =>
    obtain ⟨e, _, hk⟩ := h1 hm
    rw [e]
    by_cases hki : k ≤ i
    · rw [hk hki]; simp [Nat.add_comm]
    · simp [hki, Nat.add_comm]
  | false =>
    obtain ⟨hki, hm', e⟩ := h2 hm
    rw [e, hm']; simp [hki]
theorem sw1 : Swaps 1 6148914691236517205 := by unfold Swaps; decide +kernel
theorem sw2 : Swaps 2 3689348814741910323 := by unfold Swaps; decide +kernel
theorem sw4 : Swaps 4 1085102592571150095 := by unfold Swaps; decide +kernel
theorem sw8 : Swaps 8 71777214294589695 := by unfold Swaps; decide +kernel
theorem sw16 : Swaps 16 281470681808895 := by unfold Swaps; decide +kernel
theorem sw32 : Swaps 32 4294967295 := by unfold Swaps; decide +kernel
theorem xors : ∀ i < 64, ((((((i ^^^ 32) ^^^ 16) ^^^ 8) ^^^ 4) ^^^ 2) ^^^ 1) = 63 - i ∧ (i ^^^ 32) < 64 ∧ ((i ^^^ 32) ^^^ 16) < 64 ∧ (((i ^^^ 32) ^^^ 16) ^^^ 8) < 64 ∧ ((((i ^^^ 32) ^^^ 16) ^^^ 8) ^^^ 4) < 64 ∧ (((((i ^^^ 32) ^^^ 16) ^^^ 8) ^^^ 4) ^^^ 2) < 64 := by decide +kernel
def rev64 (n : Nat) : Nat := rv 32 4294967295 (rv 16 281470681808895 (rv 8 71777214294589695 (rv 4 1085102592571150095 (rv 2 3689348814741910323 (rv 1 6148914691236517205 n)))))
theorem rev64_bit (n i : Nat) (hi : i < 64) : (rev64 n).testBit i = n.testBit (63 - i) := by
  obtain ⟨e, h1, h2, h3, h4, h5⟩ := xors i hi
  unfold rev64
  rw [rv_bit sw32 _ _ hi, rv_bit sw16 _ _ h1, rv_bit sw8 _ _ h2, rv_bit sw4 _ _ h3, rv_bit sw2 _ _ h4, rv_bit sw1 _ _ h5, e]
/-- Bit by bit: the i lowest bits, the lowest one highest. -/
def turned (n : Nat) : Nat → Nat
  | 0 => 0
  | i + 1 => 2 * turned n i + n / 2 ^ i % 2
theorem turned_bit (n i j : Nat) : (turned n i).testBit j = (decide (j < i) && n.testBit (i - 1 - j)) := by
  induction i generalizing j with
  | zero => simp [turned]
  | succ i ih =>
    have hb : n / 2 ^ i % 2 < 2 ^ 1 := Nat.mod_lt _ (by omega)
    have := Nat.testBit_two_pow_mul_add (turned n i) hb j
    simp only [turned]
    rw [show 2 * turned n i = 2 ^ 1 * turned n i from rfl, this]
    by_cases hj : j < 1
    · have hj0 : j = 0 := by omega
      subst hj0
      simp [Nat.testBit, Nat.shiftRight_eq_div_pow, Nat.one_and_eq_mod_two]
    · rw [if_neg hj, ih]
      have e : i - 1 - (j - 1) = i + 1 - 1 - j := by omega
      rw [e]
      congr 1
      simp; omega
theorem turned_lt (n i : Nat) : turned n i < 2 ^ i := by
  induction i with
  | zero => simp [turned]
  | succ i ih => simp only [turned]; have := Nat.mod_lt (n / 2 ^ i) (by omega : 0 < 2); rw [Nat.pow_succ]; omega
theorem rv_lt {k m n : Nat} (hm : m * 2 ^ k < 2 ^ 64) (hm' : m < 2 ^ 64) : rv k m n < 2 ^ 64 := by
  unfold rv
  refine Nat.or_lt_two_pow (Nat.and_lt_two_pow _ hm') ?_
  have : n &&& m ≤ m := Nat.and_le_right
  exact Nat.lt_of_le_of_lt (Nat.mul_le_mul_right _ this) hm
theorem rev_turned (n : Nat) : rev64 n = turned n 64 := by
  apply Nat.eq_of_testBit_eq
  intro i
  rw [turned_bit]
  by_cases hi : i < 64
  · rw [rev64_bit _ _ hi]; simp [hi]
  · have h1 : rev64 n < 2 ^ 64 := rv_lt (by decide) (by decide)
    have h2 : rev64 n < 2 ^ i := Nat.lt_of_lt_of_le h1 (Nat.pow_le_pow_right (by omega) (by omega))
    rw [Nat.testBit_lt_two_pow h2]; simp [hi]
/-- What the bit-by-bit sum has gathered behind i rounds. -/
theorem turned_step (n i : Nat) (hi : i < 64) : 2 ^ (64 - i) * turned n i + n / 2 ^ i % 2 * 2 ^ (63 - i) = 2 ^ (64 - (i + 1)) * turned n (i + 1) := by
  simp only [turned]
  rw [show 64 - i = (63 - i) + 1 from by omega, show 64 - (i + 1) = 63 - i from by omega, Nat.pow_succ, Nat.mul_add, Nat.mul_comm (n / 2 ^ i % 2)]
  rw [Nat.mul_assoc]

/-! ### '&', '|', '^' at int, both sides not below 0 -/
theorem ofInt_i64 (a : Nat) (ha : a < 9223372036854775808) : (BitVec.ofInt 64 (a : Int)).toNat = a := by
  rw [BitVec.ofInt_natCast, BitVec.toNat_ofNat]; exact Nat.mod_eq_of_lt (by omega)
theorem i64_and_nat (a b : Nat) (ha : a < 9223372036854775808) (hb : b < 9223372036854775808) : bits .and .i64 (a : Int) (b : Int) = ((a &&& b : Nat) : Int) := by
  have hx : a &&& b < 2 ^ 63 := Nat.and_lt_two_pow _ (by omega)
  show IntKind.i64.wrap ((BitVec.ofInt 64 (a : Int) &&& BitVec.ofInt 64 (b : Int)).toNat : Int) = _
  rw [BitVec.toNat_and, ofInt_i64 a ha, ofInt_i64 b hb, IntKind.wrap_i64]
  omega
theorem i64_or_nat (a b : Nat) (ha : a < 9223372036854775808) (hb : b < 9223372036854775808) : bits .or .i64 (a : Int) (b : Int) = ((a ||| b : Nat) : Int) := by
  have hx : a ||| b < 2 ^ 63 := Nat.or_lt_two_pow (by omega) (by omega)
  show IntKind.i64.wrap ((BitVec.ofInt 64 (a : Int) ||| BitVec.ofInt 64 (b : Int)).toNat : Int) = _
  rw [BitVec.toNat_or, ofInt_i64 a ha, ofInt_i64 b hb, IntKind.wrap_i64]
  omega
theorem and_u64 (x : Int) (a m : Nat) (hx : x = (a : Nat)) (ha : a < 18446744073709551616) (hm : m < 18446744073709551616) : bits .and .u64 x (m : Int) = ((a &&& m : Nat) : Int) := by subst hx; exact u64_and_nat a m ha hm
theorem or_u64 (x y : Int) (a m : Nat) (hx : x = (a : Nat)) (hy : y = (m : Nat)) (ha : a < 18446744073709551616) (hm : m < 18446744073709551616) : bits .or .u64 x y = ((a ||| m : Nat) : Int) := by subst hx hy; exact u64_or_nat a m ha hm
theorem and_i64 (x : Int) (a m : Nat) (hx : x = (a : Nat)) (ha : a < 9223372036854775808) (hm : m < 9223372036854775808) : bits .and .i64 x (m : Int) = ((a &&& m : Nat) : Int) := by subst hx; exact i64_and_nat a m ha hm
/-- Bit i of a word. -/
theorem bit_u64 (n i : Nat) (hn : n < 18446744073709551616) : bits .and .u64 ((n : Int) / 2 ^ i) 1 = ((n / 2 ^ i % 2 : Nat) : Int) := by
  have h : n / 2 ^ i ≤ n := Nat.div_le_self _ _
  have := and_u64 ((n : Int) / 2 ^ i) (n / 2 ^ i) 1 (by simp) (by omega) (by decide)
  rw [Nat.and_one_is_mod] at this
  exact this
theorem bit_test (n i : Nat) : (((n / 2 ^ i % 2 : Nat) : Int) == 1) = n.testBit i := by
  simp only [Nat.testBit, Nat.shiftRight_eq_div_pow, Nat.one_and_eq_mod_two]
  rcases Nat.mod_two_eq_zero_or_one (n / 2 ^ i) with h | h <;> rw [h] <;> rfl
theorem wrap_u64 (x : Int) : IntKind.u64.wrap x = x % 18446744073709551616 := by simp [IntKind.wrap, IntKind.bits, IntKind.signed]
/-- The mask of the i lowest bits, as Go makes it: 1<<i - 1. -/
theorem mask_u64 (i : Nat) (hi : i ≤ 64) : IntKind.u64.wrap (IntKind.u64.wrap (2 ^ i) - 1) = ((2 ^ i - 1 : Nat) : Int) := by
  rw [wrap_u64, wrap_u64]
  have h1 : 1 ≤ 2 ^ i := Nat.one_le_two_pow
  have e : ((2 : Int) ^ i) = ((2 ^ i : Nat) : Int) := by simp
  rcases Nat.lt_or_ge i 64 with h | h
  · have h2 : 2 ^ i < 2 ^ 64 := Nat.pow_lt_pow_right (by omega) h
    rw [e]; omega
  · obtain rfl : i = 64 := by omega
    decide
theorem mask_and (n i : Nat) (hn : n < 18446744073709551616) (hi : i ≤ 64) : bits .and .u64 (n : Int) (IntKind.u64.wrap (IntKind.u64.wrap (2 ^ i) - 1)) = ((n % 2 ^ i : Nat) : Int) := by
  rw [mask_u64 i hi]
  have h2 : 2 ^ i ≤ 2 ^ 64 := Nat.pow_le_pow_right (by omega) hi
  have := and_u64 (n : Int) n (2 ^ i - 1) rfl hn (by omega)
  rwa [Nat.and_two_pow_sub_one_eq_mod] at this
theorem cnt_low (n i : Nat) (hi : i ≤ 64) : cnt (n % 2 ^ i) 64 = cnt n i := by
  rw [show (64 : Nat) = i + (64 - i) from by omega, cnt_add, cnt_mod n (Nat.le_refl i), Nat.div_eq_of_lt (Nat.mod_lt _ (Nat.two_pow_pos i)), cnt_zero, Nat.add_zero]
theorem mod_of_test (n i : Nat) : n / 2 ^ i % 2 = if n.testBit i then 1 else 0 := by
  simp only [Nat.testBit, Nat.shiftRight_eq_div_pow, Nat.one_and_eq_mod_two]
  rcases Nat.mod_two_eq_zero_or_one (n / 2 ^ i) with h | h <;> rw [h] <;> rfl
theorem cnt_0 (n : Nat) : cnt n 0 = 0 := rfl
theorem cnt_succ (n i : Nat) : cnt n (i + 1) = cnt n i + n / 2 ^ i % 2 := rfl
theorem turned_le (n i : Nat) (hi : i ≤ 64) : 2 ^ (64 - i) * turned n i < 18446744073709551616 := by
  have h := turned_lt n i
  have h1 : 2 ^ (64 - i) * turned n i < 2 ^ (64 - i) * 2 ^ i := Nat.mul_lt_mul_of_pos_left h (Nat.two_pow_pos _)
  rw [← Nat.pow_add, show 64 - i + i = 64 from by omega] at h1
  exact h1
theorem turned_0 (n : Nat) : turned n 0 = 0 := rfl
theorem pow_u64 (i : Nat) (hi : i < 64) : IntKind.u64.wrap (2 ^ i) = ((2 ^ i : Nat) : Int) := by
  have h2 : 2 ^ i < 2 ^ 64 := Nat.pow_lt_pow_right (by omega) hi
  have e : ((2 : Int) ^ i) = ((2 ^ i : Nat) : Int) := by simp
  rw [wrap_u64, e]
  generalize (2 ^ i : Nat) = q at *
  omega
theorem rv_facts (k m n : Nat) (K M : Int) (hK : K = 2 ^ k) (hM : M = (m : Nat)) (hn : n < 18446744073709551616) (hm : m < 18446744073709551616) (hmk : m * 2 ^ k < 18446744073709551616) :
    ∃ a b : Nat, (a : Int) ≤ M ∧ (b : Int) * K ≤ M * K ∧ (b : Int) ≤ M ∧ bits .and .u64 ((n : Int) / K) M = (a : Int) ∧ bits .and .u64 (n : Int) M = (b : Int) ∧ bits .or .u64 (a : Int) ((b : Int) * K) = ((rv k m n : Nat) : Int) ∧ rv k m n < 18446744073709551616 := by
  subst hK hM
  have hd : n / 2 ^ k ≤ n := Nat.div_le_self _ _
  have hb : n &&& m ≤ m := Nat.and_le_right
  have hbk : (n &&& m) * 2 ^ k ≤ m * 2 ^ k := Nat.mul_le_mul_right _ hb
  have ha : n / 2 ^ k &&& m ≤ m := Nat.and_le_right
  have hbk' : (((n &&& m : Nat) : Int)) * 2 ^ k ≤ (m : Int) * 2 ^ k := by
    have : (((n &&& m) * 2 ^ k : Nat) : Int) ≤ ((m * 2 ^ k : Nat) : Int) := by omega
    simpa using this
  refine ⟨n / 2 ^ k &&& m, n &&& m, by omega, hbk', by omega, and_u64 _ (n / 2 ^ k) m (by simp) (by omega) hm, and_u64 _ n m rfl hn hm, ?_, rv_lt (by omega) (by omega)⟩
  unfold rv
  exact or_u64 _ _ _ _ rfl (by simp) (by omega) (by omega)
theorem rv_last (n2 : Nat) (h2 : n2 < 18446744073709551616) : bits .or .u64 ((n2 : Int) / 4294967296) (IntKind.u64.wrap ((n2 : Int) * 4294967296)) = ((rv 32 4294967295 n2 : Nat) : Int) := by
  rw [wrap_u64]
  have e : ((n2 : Int) * 4294967296) % 18446744073709551616 = ((n2 &&& 4294967295 : Nat) : Int) * 4294967296 := by
    rw [show (4294967295 : Nat) = 2 ^ 32 - 1 from rfl, Nat.and_two_pow_sub_one_eq_mod]; omega
  rw [e]
  unfold rv
  have e4 : n2 / 2 ^ 32 &&& 4294967295 = n2 / 2 ^ 32 := by
    rw [show (4294967295 : Nat) = 2 ^ 32 - 1 from rfl, Nat.and_two_pow_sub_one_eq_mod]; omega
  rw [e4]
  have hb : n2 &&& 4294967295 ≤ 4294967295 := Nat.and_le_right
  exact or_u64 _ _ _ _ (by omega) (by omega) (by omega) (by omega)
theorem rev64_eq (n : Nat) : rev64 n = rv 32 4294967295 (rv 16 281470681808895 (rv 8 71777214294589695 (rv 4 1085102592571150095 (rv 2 3689348814741910323 (rv 1 6148914691236517205 n))))) := rfl
attribute [irreducible] cnt turned rev64 rv
end Go.Dam

/-
  append onto a row of the call's own, with the word where the row lies afterwards: where it lay, or in a new block; of any number of cells. Conditions: none; nothing here names the program.
-/
namespace Go.Dam
open Go Go.RowKit Go.ChangeShapes Go.WideShapes Go.Joins Go.Deep
set_option linter.unusedVariables false
section
variable {P : Program} {w : World}
/-- The row v' lies where v lay, or in a block that is not below B. -/
def LiesOr (B : Nat) (v v' : Value) : Prop := ∀ g, v'.ownBlock = some g → v.ownBlock = some g ∨ B ≤ g
theorem run_append_lies (t ty e : TypeId) (i : TypeInfo) (z : Value) (size bytes : Nat) (base : Nat) (ht : P.underlying t = some (.slice e)) (hi : P.info? e = some i) (hz : i.zero = some z)
    (hsize : i.size = size) (hby : i.bytes = bytes) (hzs : z.cells.size = size) (hsz : 0 < size)
    (v : Value) (n : Nat) (xs : List Value) (hown : w.ownsRow base e size v n xs)
    (a : Addr) (m c : Nat) (news : List Value) (hl : news.length = m * size) (hnews : ∀ j u, news[j]? = some u → w.cell? (a.add j) = some u) (h1 : ∀ u ∈ news, u.oneCell' = true)
    (h63 : n + m ≤ maxLen) (hbytes : (n + m) * bytes ≤ 140737488355328) (hbase : base ≤ w.heap.size) (v' : Value) (w' : World)
    (hrun : (Builtin.append_ #[t, t] ty #[v, .slice (some a) m c]).run P w = .ok v' w') : LiesOr w.heap.size v v' := by
  rcases hown.2 with ⟨rfl, rfl⟩ | ⟨g, cap, cur, rfl, hbg, hg, hnc, hcm, hcs, htake⟩
  · have hx : xs = [] := List.eq_nil_of_length_eq_zero (by simpa using hown.1)
    subst hx
    obtain ⟨v2, w2, hr, h2, _⟩ := run_append_own (P := P) w w.heap.size t ty e i z size bytes ht hi hz hsize hby hzs hsz (.slice none 0 0) 0 [] (World.ownsRow_nil w w.heap.size e size) a m c news hl hnews h1 h63 hbytes (Nat.le_refl _)
    rw [hrun] at hr
    injection hr with hv hw
    subst hv
    exact fun g hg => .inr (h2.lt g hg).1
  · subst hsize
    have hsmall : n + m ≤ 9223372036854775807 := by simp only [maxLen] at h63; omega
    by_cases hroom : n + m ≤ cap
    · have hfit : n * i.size + news.length ≤ cur.size := by rw [hl, hcs, ← Nat.add_mul]; exact Nat.mul_le_mul_right _ hroom
      have hr := run_append_room (P := P) w t ty e i ht hi g n cap cur hg a m c news hl hnews h1 hroom hfit
      rw [hrun] at hr
      injection hr with hv hw
      subst hv
      exact fun k hk => .inl hk
    · have holds : ∀ j u, xs[j]? = some u → w.cell? ((⟨g, 0, none⟩ : Addr).add j) = some u := hown.cells (g := g) rfl
      have hr := run_append_grow (P := P) w t ty e i z ht hi hz ⟨g, 0, none⟩ n cap xs hown.1 holds a m c news hl hnews (by omega) (by omega) (by subst hby; exact growslice_fits (by omega) hbytes)
      rw [hrun] at hr
      injection hr with hv hw
      subst hv
      refine fun k hk => .inr ?_
      simp only [Value.ownBlock, Option.some.injEq] at hk
      omega
/-- append of m elements, with the word where the row lies. -/
theorem wpList_pushM {T E : TypeId} {z : Value} {size bytes : Nat} (el : El P T E z size bytes) {ops : Array Oper} {rest : List Oper} {o : Oper} {a : Act} {Q : Exit → Act → World → Prop} (hgd : o.guard = none) (s x : Operand)
    (ho : o.op = .call { callee := .builtin .append, args := #[s, x], argTypes := #[T, T] })
    (base : Nat) (v : Value) (n : Nat) (xs : List Value) (hown : w.ownsRow base E size v n xs) (hs : a.eval s = v)
    (ad : Addr) (m c : Nat) (news : List Value) (hx : a.eval x = .slice (some ad) m c) (hl : news.length = m * size) (hnews : ∀ j u, news[j]? = some u → w.cell? (ad.add j) = some u) (h1 : ∀ u ∈ news, u.oneCell' = true)
    (h63 : n + m ≤ 140737488355328) (hbytes : (n + m) * bytes ≤ 140737488355328) (hbase : base ≤ w.heap.size)
    (h : ∀ v' w', w'.ownsRow base E size v' (n + m) (xs ++ news) → w.grownBy w' v.ownBlock → LiesOr w.heap.size v v' → wpList P ops Q rest (a.put o.dst v') w') : wpList P ops Q (o :: rest) a w := by
  obtain ⟨i, hi, hz, hz1, hz2⟩ := el.info
  refine wpList_plain hgd fun K hK => ?_
  obtain ⟨v', w', hr, h2, h3, h4⟩ := run_append_own (P := P) w base T o.type E i z size bytes el.ht hi hz hz1 hz2 el.hz el.hs v n xs hown ad m c news hl hnews h1 (by unfold maxLen; omega) hbytes hbase
  have h5 := run_append_lies (P := P) T o.type E i z size bytes base el.ht hi hz hz1 hz2 el.hz el.hs v n xs hown ad m c news hl hnews h1 (by unfold maxLen; omega) hbytes hbase v' w' hr
  unfold Oper.wp execOp
  simp only [ho, resolve, invoke, builtin, Sem.run_bind, Sem.run_pure, Result.andThen_ok, List.map_toArray, List.map_cons, List.map_nil, hs, hx, hr]
  exact hK _ _ (h v' w' h2 h3 h5)
theorem add_zero_addr (g j : Nat) : (⟨g, 0, none⟩ : Addr).add j = ⟨g, j, none⟩ := by unfold Addr.add; split <;> simp_all
/-- append(s, x), x one element of one cell: it lies in the block g. -/
theorem wpList_pushD {T E : TypeId} {z : Value} {bytes : Nat} (el : El P T E z 1 bytes) {ops : Array Oper} {rest : List Oper} {o : Oper} {a : Act} {Q : Exit → Act → World → Prop} (hgd : o.guard = none) (s x : Operand)
    (ho : o.op = .call { callee := .builtin .append, args := #[s, x], argTypes := #[T, T] })
    (base : Nat) (v : Value) (n : Nat) (xs : List Value) (hown : w.ownsRow base E 1 v n xs) (hs : a.eval s = v)
    (g c : Nat) (u : Value) (hx : a.eval x = .slice (some ⟨g, 0, none⟩) 1 c) (hu : w.cell? ⟨g, 0, none⟩ = some u) (h1 : u.oneCell' = true)
    (h63 : n + 1 ≤ 140737488355328) (hbytes : (n + 1) * bytes ≤ 140737488355328) (hbase : base ≤ w.heap.size)
    (h : ∀ v' w', w'.ownsRow base E 1 v' (n + 1) (xs ++ [u]) → w.grownBy w' v.ownBlock → LiesOr w.heap.size v v' → wpList P ops Q rest (a.put o.dst v') w') : wpList P ops Q (o :: rest) a w := by
  refine wpList_pushM el hgd s x ho base v n xs hown hs ⟨g, 0, none⟩ 1 c [u] hx rfl ?_ ?_ h63 hbytes hbase h
  · intro j y hj
    cases j with
    | zero => simp at hj; subst hj; exact hu
    | succ j => simp at hj
  · intro y hy
    simp at hy; subst hy; exact h1
end
/-- Two rows of the call's own do not lie in one block. -/
def Apart (v u : Value) : Prop := ∀ g, v.ownBlock = some g → u.ownBlock ≠ some g
theorem Apart.symm {v u : Value} (h : Apart v u) : Apart u v := fun g h1 h2 => h g h2 h1
theorem Apart.nil (u : Value) : Apart (.slice none 0 0) u := fun g h => by cases h
theorem Apart.nil' (u : Value) : Apart u (.slice none 0 0) := fun g h h' => by cases h'
/-- A row that was appended to is still apart from another old one. -/
theorem Apart.grow {w : World} {v v' u : Value} {base : Nat} {e : TypeId} {size n : Nat} {xs : List Value} (h : Apart v u) (hl : LiesOr w.heap.size v v') (hu : w.ownsRow base e size u n xs) : Apart v' u := by
  intro g h1 h2
  rcases hl g h1 with h3 | h3
  · exact h g h3 h2
  · have := (hu.lt g h2).2; omega
/-- The other row is kept. -/
theorem Apart.kept {w w' : World} {v u : Value} {base : Nat} {e : TypeId} {size n : Nat} {xs : List Value} (h : Apart v u) (hg : w.grownBy w' v.ownBlock) (hu : w.ownsRow base e size u n xs) : w'.ownsRow base e size u n xs := by
  refine hu.kept hg ?_
  cases hb : u.ownBlock with
  | none => exact .inl rfl
  | some g => exact .inr fun e => h g e.symm hb
end Go.Dam

/-
  append onto a row of the call's own at a step of a region that draws its order. Conditions: none; nothing here names the program.
-/
namespace Go.Dam
open Go Go.RowKit Go.ChangeShapes Go.WideShapes Go.Joins Go.Deep
set_option linter.unusedVariables false
section
variable {P : Program} {w : World}
/-- append of m elements at a step of a region that draws. -/
theorem step_pushM {T E : TypeId} {z : Value} {size bytes : Nat} (el : El P T E z size bytes) {ops : Array Oper} {o : Oper} {a : Act} {K : Act → World → Prop} {Q : Exit → Act → World → Prop} {Ep : Prop} (hgd : o.guard = none) (s x : Operand)
    (ho : o.op = .call { callee := .builtin .append, args := #[s, x], argTypes := #[T, T] })
    (base : Nat) (v : Value) (n : Nat) (xs : List Value) (hown : w.ownsRow base E size v n xs) (hs : a.eval s = v)
    (ad : Addr) (m c : Nat) (news : List Value) (hx : a.eval x = .slice (some ad) m c) (hl : news.length = m * size) (hnews : ∀ j u, news[j]? = some u → w.cell? (ad.add j) = some u) (h1 : ∀ u ∈ news, u.oneCell' = true)
    (h63 : n + m ≤ 140737488355328) (hbytes : (n + m) * bytes ≤ 140737488355328) (hbase : base ≤ w.heap.size)
    (h : ∀ v' w', w'.ownsRow base E size v' (n + m) (xs ++ news) → w.grownBy w' v.ownBlock → LiesOr w.heap.size v v' → K (a.put o.dst v') w') :
    if Region.wanted o (yielded ops a.tmps) = true then Oper.wp P o a w K Q else Ep := by
  have hw : Region.wanted o (yielded ops a.tmps) = true := by simp [Region.wanted, hgd]
  rw [if_pos hw]
  obtain ⟨i, hi, hz, hz1, hz2⟩ := el.info
  obtain ⟨v', w', hr, h2, h3, h4⟩ := run_append_own (P := P) w base T o.type E i z size bytes el.ht hi hz hz1 hz2 el.hz el.hs v n xs hown ad m c news hl hnews h1 (by unfold maxLen; omega) hbytes hbase
  have h5 := run_append_lies (P := P) T o.type E i z size bytes base el.ht hi hz hz1 hz2 el.hz el.hs v n xs hown ad m c news hl hnews h1 (by unfold maxLen; omega) hbytes hbase v' w' hr
  unfold Oper.wp execOp
  simp only [ho, resolve, invoke, builtin, Sem.run_bind, Sem.run_pure, Result.andThen_ok, List.map_toArray, List.map_cons, List.map_nil, hs, hx, hr]
  exact h v' w' h2 h3 h5
/-- append of one element of one cell, which lies in block g, at a step of a region that draws. -/
theorem step_pushD {T E : TypeId} {z : Value} {bytes : Nat} (el : El P T E z 1 bytes) {ops : Array Oper} {o : Oper} {a : Act} {K : Act → World → Prop} {Q : Exit → Act → World → Prop} {Ep : Prop} (hgd : o.guard = none) (s x : Operand)
    (ho : o.op = .call { callee := .builtin .append, args := #[s, x], argTypes := #[T, T] })
    (base : Nat) (v : Value) (n : Nat) (xs : List Value) (hown : w.ownsRow base E 1 v n xs) (hs : a.eval s = v)
    (g c : Nat) (u : Value) (hx : a.eval x = .slice (some ⟨g, 0, none⟩) 1 c) (hu : w.cell? ⟨g, 0, none⟩ = some u) (h1 : u.oneCell' = true)
    (h63 : n + 1 ≤ 140737488355328) (hbytes : (n + 1) * bytes ≤ 140737488355328) (hbase : base ≤ w.heap.size)
    (h : ∀ v' w', w'.ownsRow base E 1 v' (n + 1) (xs ++ [u]) → w.grownBy w' v.ownBlock → LiesOr w.heap.size v v' → K (a.put o.dst v') w') :
    if Region.wanted o (yielded ops a.tmps) = true then Oper.wp P o a w K Q else Ep := by
  refine step_pushM el hgd s x ho base v n xs hown hs ⟨g, 0, none⟩ 1 c [u] hx rfl ?_ ?_ h63 hbytes hbase h
  · intro j y hj
    cases j with
    | zero => simp at hj; subst hj; exact hu
    | succ j => simp at hj
  · intro y hy
    simp at hy; subst hy; exact h1
end
end Go.Dam

/-
  Plain laws of rises in a list: the piles of patience, and the length of the longest rise that ends at each place; no program in sight. Conditions: none.
-/
namespace Go.Dam
set_option linter.unusedVariables false
/-- The greatest of L[k], k < m, with f k < x; or 0. -/
def bestTo (f : Nat → Int) (L : List Nat) (x : Int) : Nat → Nat
  | 0 => 0
  | k + 1 => if f k < x ∧ bestTo f L x k < L.getD k 0 then L.getD k 0 else bestTo f L x k
/-- The lengths of the rises that end at the first n places. -/
def lensTo (f : Nat → Int) : Nat → List Nat
  | 0 => []
  | i + 1 => lensTo f i ++ [bestTo f (lensTo f i) (f i) i + 1]
theorem bestTo_0 (f : Nat → Int) (L : List Nat) (x : Int) : bestTo f L x 0 = 0 := rfl
theorem bestTo_yes {f : Nat → Int} {L : List Nat} {x : Int} {k : Nat} (h : f k < x) (g : bestTo f L x k < L.getD k 0) : bestTo f L x (k + 1) = L.getD k 0 := by rw [bestTo, if_pos ⟨h, g⟩]
theorem bestTo_no1 {f : Nat → Int} {L : List Nat} {x : Int} {k : Nat} (h : ¬ f k < x) : bestTo f L x (k + 1) = bestTo f L x k := by rw [bestTo, if_neg (fun e => h e.1)]
theorem bestTo_no2 {f : Nat → Int} {L : List Nat} {x : Int} {k : Nat} (h : ¬ bestTo f L x k < L.getD k 0) : bestTo f L x (k + 1) = bestTo f L x k := by rw [bestTo, if_neg (fun e => h e.2)]
theorem bestTo_ge {f : Nat → Int} {L : List Nat} {x : Int} : ∀ {m k : Nat}, k < m → f k < x → L.getD k 0 ≤ bestTo f L x m
  | m + 1, k, hk, hx => by
    rcases Nat.lt_or_ge k m with h | h
    · have := bestTo_ge (L := L) h hx
      rw [bestTo]; split
      · rename_i g; omega
      · exact this
    · obtain rfl : k = m := by omega
      rw [bestTo]; split
      · exact Nat.le_refl _
      · rename_i g
        have : ¬ bestTo f L x k < L.getD k 0 := fun e => g ⟨hx, e⟩
        omega
theorem bestTo_le {f : Nat → Int} {L : List Nat} {x : Int} {b : Nat} : ∀ {m : Nat}, (∀ k, k < m → f k < x → L.getD k 0 ≤ b) → bestTo f L x m ≤ b
  | 0, _ => Nat.zero_le _
  | m + 1, h => by
    have ih := bestTo_le (m := m) (f := f) (L := L) (x := x) (b := b) fun k hk hx => h k (by omega) hx
    rw [bestTo]; split
    · rename_i g; exact h m (by omega) g.1
    · exact ih
theorem lensTo_0 (f : Nat → Int) : lensTo f 0 = [] := rfl
theorem lensTo_succ (f : Nat → Int) (i : Nat) : lensTo f (i + 1) = lensTo f i ++ [bestTo f (lensTo f i) (f i) i + 1] := rfl
theorem lensTo_length (f : Nat → Int) : ∀ n, (lensTo f n).length = n
  | 0 => rfl
  | n + 1 => by rw [lensTo_succ, List.length_append, lensTo_length f n]; rfl
theorem lensTo_old {f : Nat → Int} {n i : Nat} (h : i < n) : (lensTo f (n + 1)).getD i 0 = (lensTo f n).getD i 0 := by
  rw [lensTo_succ, List.getD_eq_getElem?_getD, List.getElem?_append_left (by rw [lensTo_length]; exact h), ← List.getD_eq_getElem?_getD]
theorem lensTo_new (f : Nat → Int) (n : Nat) : (lensTo f (n + 1)).getD n 0 = bestTo f (lensTo f n) (f n) n + 1 := by
  rw [lensTo_succ, List.getD_eq_getElem?_getD, List.getElem?_append_right (by rw [lensTo_length]; exact Nat.le_refl _), lensTo_length, Nat.sub_self]; rfl
theorem lensTo_le {f : Nat → Int} : ∀ {n i : Nat}, i < n → 1 ≤ (lensTo f n).getD i 0 ∧ (lensTo f n).getD i 0 ≤ i + 1
  | n + 1, i, hi => by
    rcases Nat.lt_or_ge i n with h | h
    · rw [lensTo_old h]; exact lensTo_le h
    · obtain rfl : i = n := by omega
      rw [lensTo_new]
      have : bestTo f (lensTo f i) (f i) i ≤ i := bestTo_le fun k hk _ => by have := (lensTo_le (f := f) hk).2; omega
      omega
attribute [irreducible] bestTo lensTo
/-- A pile's last place. -/
def topP (p : List Nat) : Nat := p.getLastD 0
theorem topP_snoc (p : List Nat) (i : Nat) : topP (p ++ [i]) = i := by simp [topP]
theorem topP_mem {p : List Nat} (h : p ≠ []) : topP p ∈ p := by
  rcases List.eq_nil_or_concat p with rfl | ⟨q, x, rfl⟩
  · exact absurd rfl h
  · simp [topP]
theorem topP_at {p : List Nat} (h : p ≠ []) : p.getD (p.length - 1) 0 = topP p := by
  rcases List.eq_nil_or_concat p with rfl | ⟨q, x, rfl⟩
  · exact absurd rfl h
  · simp [topP]
/-- The piles of the places below i. -/
structure Piles (f : Nat → Int) (i : Nat) (ps : List (List Nat)) : Prop where
  ne : ∀ k, k < ps.length → ps.getD k [] ≠ []
  mem : ∀ k, k < ps.length → ∀ j, j ∈ ps.getD k [] ↔ j < i ∧ (lensTo f i).getD j 0 = k + 1
  len : ∀ j, j < i → (lensTo f i).getD j 0 ≤ ps.length
  asc : ∀ k, k < ps.length → (ps.getD k []).Pairwise fun a b => a < b ∧ f b ≤ f a
  tops : ∀ k k', k < k' → k' < ps.length → f (topP (ps.getD k [])) < f (topP (ps.getD k' []))
  prev : ∀ k, k + 1 < ps.length → ∀ j ∈ ps.getD (k + 1) [], ∃ j' ∈ ps.getD k [], j' < j ∧ f j' < f j ∧ ∀ x ∈ ps.getD k [], x < j → x ≤ j'
theorem Piles.nil (f : Nat → Int) : Piles f 0 [] := ⟨fun k h => absurd h (by simp), fun k h => absurd h (by simp), fun j h => absurd h (by omega), fun k h => absurd h (by simp), fun k k' h1 h2 => absurd h2 (by simp), fun k h => absurd h (by simp)⟩
/-- Where place i goes: the first pile whose top is not below it. -/
def PlaceAt (f : Nat → Int) (i : Nat) (ps : List (List Nat)) (K : Nat) : Prop := K ≤ ps.length ∧ (∀ k, k < K → f (topP (ps.getD k [])) < f i) ∧ (K < ps.length → f i ≤ f (topP (ps.getD K [])))
theorem Piles.top_le {f : Nat → Int} {i : Nat} {ps : List (List Nat)} (h : Piles f i ps) {k : Nat} (hk : k < ps.length) {j : Nat} (hj : j ∈ ps.getD k []) : f (topP (ps.getD k [])) ≤ f j := by
  have ha := h.asc k hk
  generalize ps.getD k [] = p at hj ha
  rcases List.eq_nil_or_concat p with rfl | ⟨q, x, rfl⟩
  · simp at hj
  · rw [List.concat_eq_append] at hj ha ⊢
    rw [topP_snoc]
    rw [List.pairwise_append] at ha
    rcases List.mem_append.1 hj with h1 | h1
    · exact (ha.2.2 j h1 x (by simp)).2
    · simp at h1; rw [h1]; exact Int.le_refl _
/-- The place's length is told by the pile. -/
theorem Piles.at_ {f : Nat → Int} {i : Nat} {ps : List (List Nat)} (h : Piles f i ps) {K : Nat} (hK : PlaceAt f i ps K) : (lensTo f (i + 1)).getD i 0 = K + 1 := by
  rw [lensTo_new]
  have h1 : bestTo f (lensTo f i) (f i) i ≤ K := bestTo_le fun j hj hf => by
    have hb := lensTo_le (f := f) hj
    have hl := h.len j hj
    obtain ⟨k, hk⟩ : ∃ k, (lensTo f i).getD j 0 = k + 1 := ⟨(lensTo f i).getD j 0 - 1, by omega⟩
    have hm := (h.mem k (by omega) j).2 ⟨hj, hk⟩
    have ht := h.top_le (by omega) hm
    rw [hk]
    rcases Nat.lt_or_ge k K with h2 | h2
    · exact h2
    · exfalso
      have h3 := hK.2.2 (by omega)
      rcases Nat.lt_or_ge K k with h4 | h4
      · have := h.tops K k h4 (by omega); omega
      · obtain rfl : k = K := by omega
        omega
  have h2 : K ≤ bestTo f (lensTo f i) (f i) i := by
    rcases Nat.eq_zero_or_pos K with h0 | h0
    · omega
    · have hkl := hK.1
      have hm := topP_mem (h.ne (K - 1) (by omega))
      have hj := (h.mem (K - 1) (by omega) _).1 hm
      have := bestTo_ge (L := lensTo f i) hj.1 (hK.2.1 (K - 1) (by omega))
      omega
  omega
theorem getD_put_same {α : Type} {l : List α} {k : Nat} (h : k < l.length) (x d : α) : (l.set k x).getD k d = x := by simp [h]
theorem getD_put_ne {α : Type} {l : List α} {k j : Nat} (h : k ≠ j) (x d : α) : (l.set k x).getD j d = l.getD j d := by simp [List.getD_eq_getElem?_getD, List.getElem?_set_ne h]
theorem getD_snoc_old {α : Type} {l : List α} {j : Nat} (h : j < l.length) (x d : α) : (l ++ [x]).getD j d = l.getD j d := by
  rw [List.getD_eq_getElem?_getD, List.getElem?_append_left h, ← List.getD_eq_getElem?_getD]
theorem getD_snoc_new {α : Type} {l : List α} (x d : α) : (l ++ [x]).getD l.length d = x := by
  rw [List.getD_eq_getElem?_getD, List.getElem?_append_right (Nat.le_refl _), Nat.sub_self]; rfl
/-- Place i is put on pile K (or on a new one): told by the piles afterwards. -/
theorem Piles.put {f : Nat → Int} {i : Nat} {ps qs : List (List Nat)} (h : Piles f i ps) {K : Nat} (hK : PlaceAt f i ps K) (hl : qs.length = max ps.length (K + 1)) (hq : qs.getD K [] = ps.getD K [] ++ [i]) (ho : ∀ k, k ≠ K → qs.getD k [] = ps.getD k []) : Piles f (i + 1) qs := by
  have hat := h.at_ hK
  have hKl := hK.1
  have mem_lt : ∀ k, k < ps.length → ∀ j ∈ ps.getD k [], j < i := fun k hk j hj => ((h.mem k hk j).1 hj).1
  have hnil : ps.length ≤ K → ps.getD K [] = [] := fun hle => by rw [List.getD_eq_getElem?_getD, List.getElem?_eq_none hle]; rfl
  have hold : ∀ k, k < qs.length → k ≠ K → k < ps.length := fun k hk hne => by omega
  have hfK : ∀ j ∈ ps.getD K [], j < i ∧ f i ≤ f j := fun j hj => by
    rcases Nat.lt_or_ge K ps.length with h1 | h1
    · have := h.top_le h1 hj; have := hK.2.2 h1; exact ⟨mem_lt K h1 j hj, by omega⟩
    · rw [hnil h1] at hj; simp at hj
  refine ⟨fun k hk => ?_, fun k hk j => ?_, fun j hj => ?_, fun k hk => ?_, fun k k' h1 h2 => ?_, fun k hk j hj => ?_⟩
  · by_cases hne : k = K
    · subst hne; rw [hq]; simp
    · rw [ho k hne]; exact h.ne k (hold k hk hne)
  · by_cases hne : k = K
    · subst hne
      rw [hq, List.mem_append, List.mem_singleton]
      constructor
      · rintro (h1 | h1)
        · have hlt := (hfK j h1).1
          rw [lensTo_old hlt]
          have hkp : k < ps.length := by
            rcases Nat.lt_or_ge k ps.length with h2 | h2
            · exact h2
            · rw [hnil h2] at h1; simp at h1
          exact ⟨by omega, ((h.mem k hkp j).1 h1).2⟩
        · subst h1; exact ⟨by omega, hat⟩
      · rintro ⟨h1, h2⟩
        rcases Nat.lt_or_ge j i with h3 | h3
        · rw [lensTo_old h3] at h2
          have := h.len j h3
          exact .inl ((h.mem k (by omega) j).2 ⟨h3, h2⟩)
        · exact .inr (by omega)
    · rw [ho k hne, h.mem k (hold k hk hne)]
      constructor
      · rintro ⟨h1, h2⟩; rw [lensTo_old h1]; exact ⟨by omega, h2⟩
      · rintro ⟨h1, h2⟩
        rcases Nat.lt_or_ge j i with h3 | h3
        · rw [lensTo_old h3] at h2; exact ⟨h3, h2⟩
        · obtain rfl : j = i := by omega
          rw [hat] at h2; omega
  · rcases Nat.lt_or_ge j i with h3 | h3
    · rw [lensTo_old h3]; have := h.len j h3; omega
    · obtain rfl : j = i := by omega
      rw [hat]; omega
  · by_cases hne : k = K
    · subst hne
      rw [hq, List.pairwise_append]
      refine ⟨?_, by simp, fun a ha b hb => ?_⟩
      · rcases Nat.lt_or_ge k ps.length with h1 | h1
        · exact h.asc k h1
        · rw [hnil h1]; exact .nil
      · simp at hb; subst hb; exact hfK a ha
    · rw [ho k hne]; exact h.asc k (hold k hk hne)
  · by_cases hne : k = K
    · subst hne
      have h3 := hold k' h2 (by omega)
      rw [hq, topP_snoc, ho k' (by omega)]
      have := h.tops k k' h1 h3
      have := hK.2.2 (by omega)
      omega
    · by_cases hne' : k' = K
      · subst hne'
        rw [hq, topP_snoc, ho k hne]
        exact hK.2.1 k h1
      · rw [ho k hne, ho k' hne']
        exact h.tops k k' h1 (hold k' h2 hne')
  · by_cases hne' : k + 1 = K
    · subst hne'
      rw [hq] at hj
      rw [ho k (by omega)]
      rcases List.mem_append.1 hj with h1 | h1
      · have hkp : k + 1 < ps.length := by
          rcases Nat.lt_or_ge (k + 1) ps.length with h2 | h2
          · exact h2
          · rw [hnil h2] at h1; simp at h1
        exact h.prev k hkp j h1
      · simp at h1; subst h1
        have hkp : k < ps.length := by omega
        refine ⟨_, topP_mem (h.ne k hkp), mem_lt k hkp _ (topP_mem (h.ne k hkp)), hK.2.1 k (by omega), fun x hx _ => ?_⟩
        have ha := h.asc k hkp
        generalize ps.getD k [] = p at hx ha
        rcases List.eq_nil_or_concat p with rfl | ⟨q, y, rfl⟩
        · simp at hx
        · rw [List.concat_eq_append] at hx ha ⊢
          rw [topP_snoc]
          rw [List.pairwise_append] at ha
          rcases List.mem_append.1 hx with h4 | h4
          · have := (ha.2.2 x h4 y (by simp)).1; omega
          · simp at h4; omega
    · have hkp : k + 1 < ps.length := hold (k + 1) hk hne'
      rw [ho (k + 1) hne'] at hj
      obtain ⟨j', h1, h2, h3, h4⟩ := h.prev k hkp j hj
      by_cases hne : k = K
      · subst hne
        rw [hq]
        refine ⟨j', List.mem_append.2 (.inl h1), h2, h3, fun x hx hxj => ?_⟩
        rcases List.mem_append.1 hx with h5 | h5
        · exact h4 x h5 hxj
        · simp at h5; subst h5
          have := mem_lt (k + 1) hkp j hj; omega
      · rw [ho k hne]; exact ⟨j', h1, h2, h3, h4⟩
end Go.Dam

/-
  How a slice of structs of m ints lies in memory: one flat list of ints, m for each element; and how the argument is opened to it. Conditions: none; nothing here names the program.
-/
namespace Go.Dam
open Go Go.RowKit Go.ChangeShapes Go.WideShapes Go.Joins Go.Deep
set_option linter.unusedVariables false
/-- The slice value reads as n elements of m ints each; l is all of them, one behind the other. -/
def IsFlat (m : Nat) (w : World) (B : Nat) (v : Value) (n : Nat) (l : List Int) : Prop :=
  ∃ A c, v = .slice A n c ∧ n ≤ c ∧ c ≤ maxLen ∧ n ≤ 140737488351232 ∧ l.length = n * m ∧ Reads w B m A n (l.map (Value.int .i64)) ∧ ∀ z ∈ l, (Lit.int .i64 z).wf = true
section
variable {m n : Nat} {w w' : World} {B B' : Nat} {v : Value} {l : List Int} {A : Option Addr}
theorem IsFlat.below (h : IsFlat m w B v n l) (hb : Below B w w') : IsFlat m w' B v n l := by
  obtain ⟨A, c, rfl, h1, h2, h5, h6, h3, h4⟩ := h
  exact ⟨A, c, rfl, h1, h2, h5, h6, h3.below hb, h4⟩
theorem IsFlat.more (h : IsFlat m w B v n l) (hB : B ≤ B') : IsFlat m w B' v n l := by
  obtain ⟨A, c, rfl, h1, h2, h5, h6, h3, h4⟩ := h
  exact ⟨A, c, rfl, h1, h2, h5, h6, h3.more hB, h4⟩
theorem flat_cells (hr : Reads w B m A n (l.map (Value.int .i64))) (hl : l.length = n * m) (hn : 0 < n) (hm : 0 < m) :
    ∃ b off, A = some ⟨b, off, none⟩ ∧ b < B ∧ ∀ j, j < n * m → w.cell? ⟨b, off + j, none⟩ = some (.int .i64 (l.getD j 0)) := by
  obtain ⟨ad, e, hb, hc⟩ := hr.2 hn
  obtain ⟨b, off, sp⟩ := ad
  have key : ∀ j, j < n * m → w.cell? ((⟨b, off, sp⟩ : Addr).add j) = some (.int .i64 (l.getD j 0)) := by
    intro j hj
    refine hc j _ ?_
    have : j < l.length := by omega
    simp [this]
  have h0 := key 0 (Nat.mul_pos hn hm)
  have hsp : sp = none := by simpa [Addr.add] using cell_spot h0
  subst hsp
  refine ⟨b, off, e, hb, fun j hj => ?_⟩
  have hu := key j hj
  unfold Addr.add at hu
  split at hu
  · rename_i h0; subst h0; exact hu
  · exact hu
theorem flat_wf (hw : ∀ z ∈ l, (Lit.int .i64 z).wf = true) (j : Nat) : I64 (l.getD j 0) := by
  rcases Nat.lt_or_ge j l.length with h | h
  · have : l.getD j 0 = l[j] := by simp [h]
    rw [this]
    exact wf_i64 (hw _ (List.getElem_mem h))
  · have : l.getD j 0 = 0 := by simp [h]
    rw [this]; unfold I64; omega
end
section
variable {H : Type} {enc : TypeId × Value → H} {P : Program} {w : World} {base : Nat} {spare : Nat → Bool} {held : Bool}
/-- Whatever slice of structs of m ints can be read as data. -/
theorem open_flat {t e : TypeId} {fs : Array Field} {m fuel : Nat} {cs : List Value} {x : DataW H × List MemPlace} (ht : P.underlying t = some (.slice e)) (he : P.underlying e = some (.struct fs)) (hone : oneCellFields P fs = true)
    (hC : P.cellsOf e = m) (hm : fs.size = m) (hm0 : 0 < m) (hfs : ∀ f ∈ fs.toList, P.underlying f.type = some (.int .i64)) (h : DataW.trod enc P w base spare held fuel t cs = some x) (hz : Sized P t x.1) :
    ∃ A n c, ∃ l : List Int, cs = [.slice A n c] ∧ n ≤ c ∧ c ≤ maxLen ∧ n * P.bytesOf e ≤ reachBytes ∧ l.length = n * m ∧ Reads w w.heap.size m A n (l.map (Value.int .i64)) ∧ ∀ z ∈ l, (Lit.int .i64 z).wf = true := by
  obtain ⟨A, n, c, vs, rfl, hc, hcm, hby, hr, hi⟩ := open_reads ht hC hm0 h hz
  have hl : vs.length = n * m := hr.1
  have key : ∀ j, j < n * m → ∃ z, vs[j]? = some (.int .i64 z) ∧ (Lit.int .i64 z).wf = true := by
    intro j hj
    have hq : j / m < n := by rw [Nat.div_lt_iff_lt_mul hm0]; exact hj
    have hrm : j % m < m := Nat.mod_lt _ hm0
    obtain ⟨f, y, hy, _⟩ := hi (j / m) hq
    obtain ⟨ys, n', _, _, hlen, hyl, hf⟩ := DataW.trod_struct he hy
    have hfj : fs[j % m]? = some (fs[j % m]'(by omega)) := Array.getElem?_eq_getElem (by omega)
    obtain ⟨ho, hk⟩ := hone_of hone (j % m) _ hfj
    have h1 := hf (j % m) _ hfj
    rw [ho, hk] at h1
    have hys : ys[j % m]? = some (ys[j % m]'(by omega)) := List.getElem?_eq_getElem (by omega)
    rw [hys] at h1
    obtain ⟨z, hz1, _, hw1⟩ := DataW.trod_int (hfs _ (by simp)) h1
    refine ⟨z, ?_, hw1⟩
    have h2 : ((((vs.drop (j / m * m)).take m).drop (j % m)).take 1)[0]? = some (.int .i64 z) := by rw [hz1]; rfl
    rw [List.getElem?_take, if_pos (by omega), List.getElem?_drop, List.getElem?_take, if_pos (by omega), List.getElem?_drop] at h2
    rw [← h2]
    congr 1
    have := Nat.div_add_mod j m
    rw [Nat.mul_comm] at this
    omega
  refine ⟨A, n, c, vs.map intOf, rfl, hc, hcm, hby, by simpa using hl, ?_, ?_⟩
  · have : (vs.map intOf).map (Value.int .i64) = vs := by
      apply List.ext_getElem?
      intro j
      rcases Nat.lt_or_ge j (n * m) with hj | hj
      · obtain ⟨z, hz, _⟩ := key j hj
        simp [hz, intOf]
      · rw [List.getElem?_eq_none (by simp; omega), List.getElem?_eq_none (by omega)]
    rw [this]; exact hr
  · intro z hz
    obtain ⟨j, hj, rfl⟩ := List.mem_iff_getElem.1 hz
    have hj' : j < vs.length := by simpa using hj
    obtain ⟨z, hz, hw⟩ := key j (by omega)
    rw [List.getElem?_eq_getElem hj'] at hz
    have : vs[j] = .int .i64 z := by injection hz
    simpa [this, intOf] using hw
theorem arg_flat {r : Reach} {b0 : Nat} {t e : TypeId} {v : Value} {d : DataW H} {ps : List MemPlace} {fs : Array Field} {m : Nat} (ht : P.underlying t = some (.slice e)) (he : P.underlying e = some (.struct fs)) (hone : oneCellFields P fs = true)
    (hC : P.cellsOf e = m) (hm : fs.size = m) (hm0 : 0 < m) (hfs : ∀ f ∈ fs.toList, P.underlying f.type = some (.int .i64)) (hby : 1 ≤ P.bytesOf e)
    (hv : Value.okWide P w r b0 t v) (h : DataW.Trod enc P w base spare held t v d ps) (hz : Sized P t d) : ∃ n l, IsFlat m w w.heap.size v n l := by
  obtain ⟨a, len, cap, rfl⟩ := okWide_slice ht hv
  obtain ⟨fuel, hf⟩ := h
  obtain ⟨A, n, c, l, hcs, hc, hcm, hb, hl, hr, hw⟩ := open_flat ht he hone hC hm hm0 hfs hf hz
  simp only [Value.cells, List.cons.injEq, and_true] at hcs
  have : n * 1 ≤ n * P.bytesOf e := Nat.mul_le_mul_left _ hby
  have hr2 : reachBytes = 140737488351232 := rfl
  exact ⟨n, l, A, c, hcs, hc, hcm, by omega, hl, hr, hw⟩
end
/-- Elements of lists of ints by their first coordinates. -/
def coordOk (z : Int) : Bool := decide (-1048576 ≤ z ∧ z ≤ 1048576)
theorem coordOk_yes {z : Int} (h : coordOk z = true) : -1048576 ≤ z ∧ z ≤ 1048576 := by simpa [coordOk] using h
theorem coordOk_no {z : Int} (h : coordOk z = false) : z < -1048576 ∨ 1048576 < z := by
  rw [coordOk, decide_eq_false_iff_not] at h; omega
/-- Has a number below n the mark? -/
def anyN (p : Nat → Bool) (n : Nat) : Bool := (List.range n).any p
theorem anyN_yes {p : Nat → Bool} {n i : Nat} (hi : i < n) (h : p i = true) : anyN p n = true := by
  unfold anyN; rw [List.any_eq_true]; exact ⟨i, List.mem_range.2 hi, h⟩
theorem anyN_no {p : Nat → Bool} {n : Nat} (h : ∀ i, i < n → p i = false) : anyN p n = false := by
  unfold anyN; rw [List.any_eq_false]; intro i hi; rw [h i (List.mem_range.1 hi)]; simp
theorem anyN_false {p : Nat → Bool} {n : Nat} (h : anyN p n = false) : ∀ i, i < n → p i = false := by
  unfold anyN at h; rw [List.any_eq_false] at h
  intro i hi
  have := h i (List.mem_range.2 hi)
  simpa using this
theorem anyN_true {p : Nat → Bool} {n : Nat} (h : anyN p n = true) : ∃ i, i < n ∧ p i = true := by
  unfold anyN at h; rw [List.any_eq_true] at h
  obtain ⟨i, hi, hp⟩ := h
  exact ⟨i, List.mem_range.1 hi, hp⟩
attribute [irreducible] anyN coordOk
/-- The first number below n with the mark, or -1. -/
def FirstR (p : Nat → Bool) (n : Nat) (k : Int) : Prop := (k = -1 ∧ ∀ i, i < n → p i = false) ∨ ∃ i : Nat, i < n ∧ k = i ∧ p i = true ∧ ∀ j, j < i → p j = false
theorem FirstR.any {p : Nat → Bool} {n : Nat} {k : Int} (h : FirstR p n k) : decide (k ≥ 0) = anyN p n := by
  rcases h with ⟨rfl, h⟩ | ⟨i, hi, rfl, hp, _⟩
  · rw [anyN_no h]; rfl
  · rw [anyN_yes hi hp]; simp
theorem FirstR.bd {p : Nat → Bool} {n : Nat} {k : Int} (h : FirstR p n k) : -1 ≤ k ∧ k < n := by
  rcases h with ⟨rfl, h⟩ | ⟨i, hi, rfl, hp, _⟩ <;> omega
theorem FirstR.ex (p : Nat → Bool) : ∀ n, ∃ k, FirstR p n k
  | 0 => ⟨-1, .inl ⟨rfl, fun i hi => absurd hi (by omega)⟩⟩
  | n + 1 => by
    obtain ⟨k, hk⟩ := FirstR.ex p n
    rcases hk with ⟨rfl, h⟩ | ⟨i, hi, rfl, hp, hj⟩
    · cases hn : p n
      · exact ⟨-1, .inl ⟨rfl, fun i hi => by rcases Nat.lt_or_ge i n with h1 | h1; exact h i h1; rw [show i = n from by omega]; exact hn⟩⟩
      · exact ⟨n, .inr ⟨n, by omega, rfl, hn, h⟩⟩
    · exact ⟨i, .inr ⟨i, by omega, rfl, hp, hj⟩⟩
theorem FirstR.is {p : Nat → Bool} {n i : Nat} {k : Int} (h : FirstR p n k) (hi : i < n) (hp : p i = true) (hno : ∀ j, j < i → p j = false) : k = i := by
  rcases h with ⟨rfl, h⟩ | ⟨i', hi', rfl, hp', hno'⟩
  · rw [h i hi] at hp; cases hp
  · rcases Nat.lt_trichotomy i i' with h | h | h
    · rw [hno' i h] at hp; cases hp
    · rw [h]
    · rw [hno i' h] at hp'; cases hp'
theorem FirstR.none_ {p : Nat → Bool} {n : Nat} {k : Int} (h : FirstR p n k) (hno : ∀ j, j < n → p j = false) : k = -1 := by
  rcases h with ⟨rfl, h⟩ | ⟨i', hi', rfl, hp', hno'⟩
  · rfl
  · rw [hno i' hi'] at hp'; cases hp'
theorem no_step {p : Nat → Bool} {i : Nat} (h : ∀ j, j < i → p j = false) (hi : p i = false) : ∀ j, j < i + 1 → p j = false := by
  intro j hj
  rcases Nat.lt_or_ge j i with h1 | h1
  · exact h j h1
  · rw [show j = i from by omega]; exact hi
theorem not3_cases {x y z b : Bool} (h : (!(x && (y && z))) = b) : (b = true ∧ x = false) ∨ (b = true ∧ x = true ∧ y = false) ∨ (b = true ∧ x = true ∧ y = true ∧ z = false) ∨ (b = false ∧ x = true ∧ y = true ∧ z = true) := by
  subst h; cases x <;> cases y <;> cases z <;> simp
end Go.Dam
