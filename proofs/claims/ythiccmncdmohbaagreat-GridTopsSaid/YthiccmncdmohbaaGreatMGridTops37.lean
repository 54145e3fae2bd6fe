/-
  Texts of one claim behind each other. Conditions: none of its own.
-/
import Derived.Test.YthiccmncdmohbaaGreatMGridTops36
import Derived.Test.YthiccmncdmohbaaGreatMGridTops29
set_option linter.unusedVariables false
set_option linter.unusedSimpArgs false
/-
  Contract of the reference's within with the order by X and Y: the places in a rectangle, sorted stably. Conditions: the points can be read as data; they are at most 150.
-/
namespace Go.Dam
open Go Go.RowKit Go.Dam.Stable
theorem natL_take (l : List Int) (x0 y0 x1 y1 : Int) (t : Nat) : (List.range (t + 1)).filter (inQ l x0 y0 x1 y1) = (List.range t).filter (inQ l x0 y0 x1 y1) ++ (if inQ l x0 y0 x1 y1 t then [t] else []) := by
  rw [List.range_succ, List.filter_append]
  cases h : inQ l x0 y0 x1 y1 t <;> simp [h]
/-- A number that is a place below n. -/
def IsPl (n : Nat) (z : Int) : Prop := ∃ i : Nat, z = i ∧ i < n
theorem ltP_weak (l : List Int) : Weak (ltP l) where
  asym x y h := by unfold ltP ltXY at *; simp at *; omega
  tr x y z h g := by unfold ltP ltXY at *; simp at *; omega
  neg x y z h g := by unfold ltP ltXY at *; simp at *; omega
theorem StabR_mem {lt : Int → Int → Bool} {l r : List Int} (h : StabR lt l r) {z : Int} (hz : z ∈ r) : z ∈ l := by
  obtain ⟨m, hm, _, rfl⟩ := h
  have := (hm.map (·.2)).mem_iff.1 hz
  rwa [tagL_snd] at this
end Go.Dam
namespace Go.Proofs.YthiccmncdmohbaaGreat
open Go Go.RowKit Go.Dam Go.Sort Go.Dam.Stable
set_option linter.unusedVariables false
end Go.Proofs.YthiccmncdmohbaaGreat

/-
  Plain law: the places in a rectangle, as the index orders them, are what a stable sort by X and Y leaves of them. Conditions: none; nothing here names the program.
-/
namespace Go.Dam
open Go Go.RowKit Go.Dam.Stable
set_option linter.unusedVariables false
/-- How many places ahead of i are met. -/
def cntP (p : Nat → Bool) (i : Nat) : Nat := ((List.range i).filter p).length
theorem cntP_succ (p : Nat → Bool) (i : Nat) : cntP p (i + 1) = cntP p i + (if p i then 1 else 0) := by
  unfold cntP; rw [List.range_succ, List.filter_append, List.length_append]
  cases h : p i <;> simp [h]
theorem cntP_mono (p : Nat → Bool) {i : Nat} : ∀ {j}, i ≤ j → cntP p i ≤ cntP p j
  | 0, h => by obtain rfl : i = 0 := by omega
               exact Nat.le_refl _
  | j + 1, h => by
    rcases Nat.eq_or_lt_of_le h with rfl | g
    · exact Nat.le_refl _
    · have := cntP_mono p (i := i) (j := j) (by omega)
      rw [cntP_succ]; omega
theorem cntP_lt {p : Nat → Bool} {i j : Nat} (h : i < j) (hp : p i = true) : cntP p i < cntP p j := by
  have h1 := cntP_succ p i
  have h2 := cntP_mono p (show i + 1 ≤ j from h)
  rw [hp, if_pos rfl] at h1
  omega
theorem tagL_snoc {β : Type} (l : List β) (x : β) : tagL (l ++ [x]) = tagL l ++ [(l.length, x)] := by
  unfold tagL; rw [List.zipIdx_append, List.map_append]; simp
theorem tagL_filter (p : Nat → Bool) : ∀ n, tagL (natL ((List.range n).filter p)) = ((List.range n).filter p).map fun i => (cntP p i, (i : Int))
  | 0 => rfl
  | n + 1 => by
    have ih := tagL_filter p n
    rw [List.range_succ, List.filter_append, List.map_append]
    cases h : p n with
    | true =>
      have e : [n].filter p = [n] := by simp [h]
      rw [e]
      have e2 : natL ((List.range n).filter p ++ [n]) = natL ((List.range n).filter p) ++ [(n : Int)] := by unfold natL; simp
      rw [e2, tagL_snoc, ih, natL_len]; rfl
    | false =>
      have e : [n].filter p = [] := by simp [h]
      rw [e, List.append_nil, ih]; simp
theorem report_stab {l : List Int} {n : Nat} {rn : List Nat} (h : OrdXY l n rn) (p : Nat → Bool) : StabR (ltP l) (natL ((List.range n).filter p)) (natL (rn.filter p)) := by
  refine ⟨(rn.filter p).map fun i => (cntP p i, (i : Int)), ?_, ?_, ?_⟩
  · rw [tagL_filter]; exact (h.1.filter p).map _
  · have hl := h.len
    have h1 : rn.Pairwise fun a b => ¬ (l.getD (b * 3) 0 < l.getD (a * 3) 0 ∨ (l.getD (b * 3) 0 = l.getD (a * 3) 0 ∧ (l.getD (b * 3 + 1) 0 < l.getD (a * 3 + 1) 0 ∨ (l.getD (b * 3 + 1) 0 = l.getD (a * 3 + 1) 0 ∧ b < a)))) := by
      rw [List.pairwise_iff_getElem]
      intro u v hu hv huv
      have := h.2 u v huv (by omega)
      unfold xOf yOf at this
      rw [ge_at rn hu, ge_at rn hv] at this
      exact this
    have h2 : rn.Pairwise (· ≠ ·) := h.1.nodup_iff.2 List.nodup_range
    have h3 := (h1.and h2).filter p
    refine List.Pairwise.map _ (R := fun a b : Nat => TagT (ltP l) (cntP p a, (a : Int)) (cntP p b, (b : Int))) (fun a b hab => hab) ?_
    refine List.Pairwise.imp_of_mem ?_ h3
    rintro a b ha hb ⟨g1, g2⟩
    have hpa := (List.mem_filter.1 ha).2
    unfold TagT ltP ltXY
    simp only [Int.toNat_natCast]
    by_cases c1 : l.getD (a * 3) 0 < l.getD (b * 3) 0 ∨ (l.getD (a * 3) 0 = l.getD (b * 3) 0 ∧ l.getD (a * 3 + 1) 0 < l.getD (b * 3 + 1) 0)
    · left; rw [Bool.or_eq_true, Bool.and_eq_true, decide_eq_true_eq, decide_eq_true_eq, decide_eq_true_eq]; exact c1
    · right
      refine ⟨?_, ?_, cntP_lt (by omega) hpa⟩
      · rw [Bool.or_eq_false_iff, Bool.and_eq_false_iff, decide_eq_false_iff_not, decide_eq_false_iff_not, decide_eq_false_iff_not]; omega
      · rw [Bool.or_eq_false_iff, Bool.and_eq_false_iff, decide_eq_false_iff_not, decide_eq_false_iff_not, decide_eq_false_iff_not]; omega
  · unfold natL; rw [List.map_map]; rfl
end Go.Dam

/-
  Contracts of the reference's within with the order by weight (with its closures). Conditions: the points can be read as data; they are at most 150.
-/
namespace Go.Dam
open Go Go.RowKit
/-- Points, compared. -/
def ltT (x0 y0 z0 x1 y1 z1 : Int) : Bool := decide (z1 < z0)
/-- Places, by their points. -/
def ltPT (l : List Int) (x y : Int) : Bool := ltT (l.getD (x.toNat * 3) 0) (l.getD (x.toNat * 3 + 1) 0) (l.getD (x.toNat * 3 + 2) 0) (l.getD (y.toNat * 3) 0) (l.getD (y.toNat * 3 + 1) 0) (l.getD (y.toNat * 3 + 2) 0)
end Go.Dam
namespace Go.Proofs.YthiccmncdmohbaaGreat
open Go Go.RowKit Go.Dam
set_option linter.unusedVariables false
section
variable (x0 y0 z0 x1 y1 z1 : Int) (w : World)
set_option maxHeartbeats 1000000 in
theorem repTLess_any : Calls Tryz.prog 13 #[.agg #[.int .i64 x0, .int .i64 y0, .int .i64 z0], .agg #[.int .i64 x1, .int .i64 y1, .int .i64 z1]] w fun e w' => e = .returned (.bool (ltT x0 y0 z0 x1 y1 z1)) ∧ (∃ q os, w' = Sort.grow (w.drewN q) os) ∧ Below w.heap.size w w' := by
  have HB0 := Lib.hid (((Below.refl w.heap.size w).alloc (Nat.le_refl _) (.cells #[.int .i64 x0, .int .i64 y0, .int .i64 z0] 41)).alloc (by simp) (.cells #[.int .i64 x1, .int .i64 y1, .int .i64 z1] 41))
  have HG : Hid (∃ q os, (w.alloc (.cells #[.int .i64 x0, .int .i64 y0, .int .i64 z0] 41)).alloc (.cells #[.int .i64 x1, .int .i64 y1, .int .i64 z1] 41) = Sort.grow (w.drewN q) os) := Lib.hid ⟨0, _, by rw [Sort.alloc_eq_grow, Sort.alloc_eq_grow, Sort.grow_grow]; rfl⟩
  have he : ltT x0 y0 z0 x1 y1 z1 = decide (z1 < z0) := rfl
  rw [he]; clear he
  by_cases h4 : z1 < z0
  · rw [decide_eq_true h4]
    go_enter Tryz.func13, Tryz.ntmps13
    go_wp2_with fail
    go_ret
    exact ⟨ret_bool (by simp [h4]), HG.out, HB0.out⟩
  · rw [decide_eq_false h4]
    go_enter Tryz.func13, Tryz.ntmps13
    go_wp2_with fail
    go_ret
    exact ⟨ret_bool (by simp [h4]), HG.out, HB0.out⟩
end
set_option maxHeartbeats 4000000 in
theorem repTWithinLess_any (i j pi pj m co n c bk off ob k0 k1 k2 : Nat) (x0 y0 z0 x1 y1 z1 : Int) (w : World) (hi : i < m) (hj : j < m) (hm : m ≤ 150) (hpi : pi < n) (hpj : pj < n) (hn : n ≤ 150)
    (b0 : w.cell? ⟨k0, 0, none⟩ = some (.func (.func 13) #[] #[])) (b1 : w.cell? ⟨k1, 0, none⟩ = some (.slice (some ⟨bk, off, none⟩) n c)) (b2 : w.cell? ⟨k2, 0, none⟩ = some (.slice (some ⟨ob, 0, none⟩) m co))
    (o0 : w.cell? ⟨ob, i, none⟩ = some (.int .i64 pi)) (o1 : w.cell? ⟨ob, j, none⟩ = some (.int .i64 pj))
    (c0 : w.cell? ⟨bk, off + pi * 3, none⟩ = some (.int .i64 x0)) (c1 : w.cell? ⟨bk, off + pi * 3 + 1, none⟩ = some (.int .i64 y0)) (c2 : w.cell? ⟨bk, off + pi * 3 + 2, none⟩ = some (.int .i64 z0))
    (d0 : w.cell? ⟨bk, off + pj * 3, none⟩ = some (.int .i64 x1)) (d1 : w.cell? ⟨bk, off + pj * 3 + 1, none⟩ = some (.int .i64 y1)) (d2 : w.cell? ⟨bk, off + pj * 3 + 2, none⟩ = some (.int .i64 z1)) :
    Calls Tryz.prog 21 #[.int .i64 i, .int .i64 j, .pointer (some ⟨k0, 0, none⟩), .pointer (some ⟨k1, 0, none⟩), .pointer (some ⟨k2, 0, none⟩)] w fun e w' => e = .returned (.bool (ltT x0 y0 z0 x1 y1 z1)) ∧ ∃ q os, w' = Sort.grow (w.drewN q) os := by
  have i1 : (i : Int) < (m : Int) := by omega
  have j1 : (j : Int) < (m : Int) := by omega
  have i2 : (pi : Int) < (n : Int) := by omega
  have j2 : (pj : Int) < (n : Int) := by omega
  have HL := Lib.hid repTLess_any
  go_enter Tryz.func21, Tryz.ntmps21
  go_wp2_with fail
  go_region_held3 (fun w' => w'.cell? ⟨k0, 0, none⟩ = some (.func (.func 13) #[] #[]) ∧ w'.cell? ⟨k1, 0, none⟩ = some (.slice (some ⟨bk, off, none⟩) n c) ∧ w'.cell? ⟨k2, 0, none⟩ = some (.slice (some ⟨ob, 0, none⟩) m co) ∧ w'.cell? ⟨ob, i, none⟩ = some (.int .i64 pi) ∧ w'.cell? ⟨ob, j, none⟩ = some (.int .i64 pj) ∧ w'.cell? ⟨bk, off + pi * 3, none⟩ = some (.int .i64 x0) ∧ w'.cell? ⟨bk, off + pi * 3 + 1, none⟩ = some (.int .i64 y0) ∧ w'.cell? ⟨bk, off + pi * 3 + 2, none⟩ = some (.int .i64 z0) ∧ w'.cell? ⟨bk, off + pj * 3, none⟩ = some (.int .i64 x1) ∧ w'.cell? ⟨bk, off + pj * 3 + 1, none⟩ = some (.int .i64 y1) ∧ w'.cell? ⟨bk, off + pj * 3 + 2, none⟩ = some (.int .i64 z1))
    (first
      | exact ⟨b0, b1, b2, o0, o1, c0, c1, c2, d0, d1, d2⟩
      | exact ⟨kept_grow b0, kept_grow b1, kept_grow b2, kept_grow o0, kept_grow o1, kept_grow c0, kept_grow c1, kept_grow c2, kept_grow d0, kept_grow d1, kept_grow d2⟩)
    (first
      | (go_at_call 13; refine (HL.out _ _ _ _ _ _ _).mono ?_; rintro e w' ⟨rfl, ⟨q, os, rfl⟩, hbi⟩))
  all_goals go_wp2_with fail
  all_goals go_ret
  all_goals exact ⟨rfl, _, _, rfl⟩
end Go.Proofs.YthiccmncdmohbaaGreat
