/-
  Texts of one claim behind each other. Conditions: none of its own.
-/
import Derived.Test.YthiccmncdmohbaaGreatMGridTops00
import Derived.Test.YthiccmncdmohbaaGreatMGridTops37
import Derived.Test.YthiccmncdmohbaaGreatMGridTops38
import Derived.Test.YthiccmncdmohbaaGreatMGridTops06
set_option linter.unusedVariables false
set_option linter.unusedSimpArgs false
/-
  Plain law: what is taken out of a heap of places, the heaviest first, is what a stable sort by weight leaves, cut. Conditions: none; nothing here names the program.
-/
namespace Go.Dam
open Go Go.RowKit Go.Dam.Stable
set_option linter.unusedVariables false
/-- The weight at a place. -/
def wAt (l : List Int) (x : Int) : Int := l.getD (x.toNat * 3 + 2) 0
/-- Heavier; or as heavy, and ahead. -/
def ltH (l : List Int) (x y : Int) : Bool := decide (wAt l y < wAt l x) || (decide (wAt l y = wAt l x) && decide (x < y))
theorem ltH_t {l : List Int} {x y : Int} : ltH l x y = true ↔ (wAt l y < wAt l x ∨ (wAt l y = wAt l x ∧ x < y)) := by
  unfold ltH; rw [Bool.or_eq_true, Bool.and_eq_true, decide_eq_true_eq, decide_eq_true_eq, decide_eq_true_eq]
theorem ltH_f {l : List Int} {x y : Int} : ltH l x y = false ↔ ¬ (wAt l y < wAt l x ∨ (wAt l y = wAt l x ∧ x < y)) := by
  rw [← ltH_t]; cases ltH l x y <;> simp
theorem ltH_ord (l : List Int) : Heap.Ord (ltH l) where
  asym x y h := by rw [ltH_t] at h; rw [ltH_f]; omega
  neg x y z h g := by rw [ltH_f] at *; omega
theorem tag_natL (p : Nat → Bool) (n : Nat) : tagL (natL ((List.range n).filter p)) = (natL ((List.range n).filter p)).map fun x => (cntP p x.toNat, x) := by
  rw [tagL_filter]; unfold natL; rw [List.map_map]; rfl
theorem natL_nodup {l : List Nat} (h : l.Nodup) : (natL l).Nodup := by
  unfold natL
  exact List.Pairwise.map (fun i : Nat => (i : Int)) (fun a b hab => by intro e; exact hab (by omega)) h
theorem pops_stab {l : List Int} {n : Nat} {p : Nat → Bool} {L : List Int} (hp : L.Perm (natL ((List.range n).filter p))) (hh : Heap.HeapB (ltH l) L.length 0 L) :
    ∃ s, StabR (ltPT l) (natL ((List.range n).filter p)) s ∧ ∀ k, Heap.popsF (ltH l) k L = s.take k := by
  have hs := Heap.popsF_perm (lt := ltH l) L.length L (Nat.le_refl _)
  have hso := Heap.popsF_sorted (ltH_ord l) L.length L (Nat.le_refl _) hh
  refine ⟨Heap.popsF (ltH l) L.length L, ?_, fun k => Heap.popsF_take k L L.length (Nat.le_refl _)⟩
  generalize Heap.popsF (ltH l) L.length L = s at *
  have hsp := hs.trans hp
  have hnd : s.Nodup := hsp.nodup_iff.2 (natL_nodup (List.nodup_range.filter p))
  refine ⟨s.map fun x => (cntP p x.toNat, x), ?_, ?_, ?_⟩
  · rw [tag_natL]; exact hsp.map _
  · refine List.Pairwise.map _ (R := fun a b : Int => TagT (ltPT l) (cntP p a.toNat, a) (cntP p b.toNat, b)) (fun a b hab => hab) ?_
    refine List.Pairwise.imp_of_mem ?_ (hso.and hnd)
    rintro a b ha hb ⟨g1, g2⟩
    have mem : ∀ x, x ∈ s → ∃ i : Nat, x = (i : Int) ∧ p i = true := fun x hx => by
      have := hsp.mem_iff.1 hx
      unfold natL at this
      obtain ⟨i, hi, rfl⟩ := List.mem_map.1 this
      exact ⟨i, rfl, (List.mem_filter.1 hi).2⟩
    obtain ⟨i, rfl, hi⟩ := mem a ha
    obtain ⟨j, rfl, hj⟩ := mem b hb
    rw [ltH_f] at g1
    unfold wAt at g1
    unfold TagT ltPT ltT
    simp only [Int.toNat_natCast] at *
    by_cases c1 : l.getD (j * 3 + 2) 0 < l.getD (i * 3 + 2) 0
    · left; rw [decide_eq_true_eq]; exact c1
    · right
      refine ⟨decide_eq_false (by omega), decide_eq_false (by omega), cntP_lt (by omega) hi⟩
  · rw [List.map_map]; exact (List.map_id _).symm
/-- The first of two numbers that is not zero. -/
def or2 (a b : Int) : Int := if a ≠ 0 then a else b
end Go.Dam

/-
  A store into a row of the call's own. Conditions: the place is in the row.
-/
namespace Go.Dam
open Go Go.RowKit
theorem own_set {w : World} {base g n cap i : Nat} {e : TypeId} {xs : List Value} (h : w.ownsRow base e 1 (.slice (some ⟨g, 0, none⟩) n cap) n xs) (hi : i < n) (u : Value) : (w.setCell ⟨g, i, none⟩ u).ownsRow base e 1 (.slice (some ⟨g, 0, none⟩) n cap) n (xs.set i u) := by
  refine ⟨by rw [List.length_set]; exact h.1, ?_⟩
  rcases h.2 with ⟨hx, _⟩ | ⟨g1, cap1, cur, hv, hb, hg, k1, k2, k3, k4⟩
  · cases hx
  injection hv with a1 a2 a3
  injection a1 with a1
  injection a1 with a1 _ _
  subst a1 a3
  have hB : Blk w g e cur := hg
  refine .inr ⟨g, cap, _, rfl, hb, hB.set_ i u, k1, k2, ?_, ?_⟩
  · simpa using k3
  · rw [← k4]
    apply List.ext_getElem?
    intro j
    simp only [Array.toList_setIfInBounds, Nat.mul_one, List.getElem?_take, List.getElem?_set, List.length_take]
    by_cases c1 : j < n
    · by_cases c2 : i = j
      · subst c2
        have : i < cur.size := by omega
        have h3 : i < min n cur.size := by omega
        simp [c1, this, h3]
      · simp [c1, c2]
    · have : ¬ i = j := by omega
      simp [c1, this]
theorem own_cell0 {w : World} {base g n cap i : Nat} {e : TypeId} {xs : List Value} (h : w.ownsRow base e 1 (.slice (some ⟨g, 0, none⟩) n cap) n xs) (hi : i < n) : (∃ u, w.cell? ⟨g, i, none⟩ = some u) ∧ w.frozen? ⟨g, i, none⟩ = false := by
  rcases h.2 with ⟨hx, _⟩ | ⟨g1, cap1, cur, hv, hb, hg, k1, k2, k3, k4⟩
  · cases hx
  injection hv with a1 a2 a3
  injection a1 with a1
  injection a1 with a1 _ _
  subst a1 a3
  have hB : Blk w g e cur := hg
  refine ⟨⟨cur[i], ?_⟩, hB.frozen i⟩
  have := hB.cell i
  rw [this, Array.getElem?_eq_getElem (by omega)]
end Go.Dam
