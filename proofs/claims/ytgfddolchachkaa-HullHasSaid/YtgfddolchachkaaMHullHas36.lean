/-
  Contracts of hull.Has and its closure: does the hull have a place, or the code of what is refused. Conditions: the points can be read as data.
-/
import Derived.Test.YtgfddolchachkaaMHullHas35
namespace Go.Dam.Hull
open Go Go.RowKit Go.Dam
/-- Of the first j edges each one has the place to its left. -/
def allB (F : Nat → Pt) (H : List Nat) (p : Pt) : Nat → Bool
  | 0 => true
  | j + 1 => allB F H p j && decide (0 ≤ trn (F (H.getD j 0)) (F (H.getD ((j + 1) % H.length) 0)) p)
theorem allB_iff (F : Nat → Pt) (H : List Nat) (p : Pt) : ∀ j, allB F H p j = true ↔ ∀ u, u < j → 0 ≤ trn (F (H.getD u 0)) (F (H.getD ((u + 1) % H.length) 0)) p
  | 0 => ⟨fun _ u hu => absurd hu (by omega), fun _ => rfl⟩
  | j + 1 => by
    rw [allB, Bool.and_eq_true, allB_iff F H p j, decide_eq_true_iff]
    refine ⟨fun ⟨h1, h2⟩ u hu => ?_, fun h => ⟨fun u hu => h u (by omega), h j (by omega)⟩⟩
    by_cases e : u = j
    · subst e; exact h2
    · exact h1 u (by omega)
theorem allB_0 (F : Nat → Pt) (H : List Nat) (p : Pt) : allB F H p 0 = true := rfl
theorem allB_s (F : Nat → Pt) (H : List Nat) (p : Pt) (j : Nat) : allB F H p (j + 1) = (allB F H p j && decide (0 ≤ trn (F (H.getD j 0)) (F (H.getD ((j + 1) % H.length) 0)) p)) := rfl
attribute [irreducible] allB
theorem ptF_app {l : List Int} {n i : Nat} (hl : l.length = n * 3) (x y : Int) (hi : i < n) : ptF (l ++ [x, y, 0]) i = ptF l i := by
  unfold ptF
  simp only [List.getD_eq_getElem?_getD, List.getElem?_append_left (show i * 3 < l.length by omega), List.getElem?_append_left (show i * 3 + 1 < l.length by omega)]
theorem ptF_new {l : List Int} {n : Nat} (hl : l.length = n * 3) (x y : Int) : ptF (l ++ [x, y, 0]) n = (x, y) := by
  unfold ptF
  simp [List.getD_eq_getElem?_getD, List.getElem?_append_right (show l.length ≤ n * 3 by omega), List.getElem?_append_right (show l.length ≤ n * 3 + 1 by omega), ← hl]
/-- What the answer is. -/
def HasR (n : Nat) (l : List Int) (x y : Int) (r : Bool) (c : Int) : Prop :=
  (hullCode n l ≠ 0 ∧ r = false ∧ c = hullCode n l) ∨ (hullCode n l = 0 ∧ (coordOk x && coordOk y) = false ∧ r = false ∧ c = 2) ∨
  (hullCode n l = 0 ∧ coordOk x = true ∧ coordOk y = true ∧ c = 0 ∧ ∃ H K, HullIs (ptF l) n H ∧ H.length ≤ 300 ∧ HullIs (ptF (l ++ [x, y, 0])) (n + 1) K ∧ K.length ≤ 400 ∧ (r = true ↔ Same (ptF l) (ptF (l ++ [x, y, 0])) H K))
theorem okC_more {n : Nat} {l : List Int} {x y : Int} (hl : l.length = n * 3) (h : ∀ i, i < n → okC (l.getD (i * 3) 0) ∧ okC (l.getD (i * 3 + 1) 0)) (hx : okC x) (hy : okC y) : ∀ i, i < n + 1 → okC (ptF (l ++ [x, y, 0]) i).1 ∧ okC (ptF (l ++ [x, y, 0]) i).2 := fun i hi => by
  by_cases e : i < n
  · rw [ptF_app hl x y e]; exact h i e
  · obtain rfl : i = n := by omega
    rw [ptF_new hl]; exact ⟨hx, hy⟩
theorem HasR.ex (n : Nat) (l : List Int) (x y : Int) (hl : l.length = n * 3) : ∃ r c, HasR n l x y r c := by
  by_cases h : hullCode n l = 0
  · by_cases hxy : coordOk x = true ∧ coordOk y = true
    · obtain ⟨h1, h2⟩ := hullCode_ok h
      obtain ⟨h3, h4⟩ := pt_okC h1
      obtain ⟨H, h5, h6⟩ := hull_ex2 h2 (pt_nr h4)
      have hm := okC_more hl h4 (coordOk_yes hxy.1) (coordOk_yes hxy.2)
      obtain ⟨K, h7, h8⟩ := hull_ex2 (F := ptF (l ++ [x, y, 0])) (n := n + 1) (by omega) (fun i hi => (hm i hi).2)
      by_cases hs : Same (ptF l) (ptF (l ++ [x, y, 0])) H K
      · exact ⟨true, 0, .inr (.inr ⟨h, hxy.1, hxy.2, rfl, H, K, h5, by omega, h7, by omega, ⟨fun _ => hs, fun _ => rfl⟩⟩)⟩
      · exact ⟨false, 0, .inr (.inr ⟨h, hxy.1, hxy.2, rfl, H, K, h5, by omega, h7, by omega, ⟨fun h => (by cases h), fun h => absurd h hs⟩⟩)⟩
    · exact ⟨false, 2, .inr (.inl ⟨h, by cases hx : coordOk x <;> cases hy : coordOk y <;> simp_all, rfl, rfl⟩)⟩
  · exact ⟨false, _, .inl ⟨h, rfl, rfl⟩⟩
end Go.Dam.Hull
namespace Go.Proofs.Ytgfddolchachkaa
open Go Go.RowKit Go.Dam Go.Dam.Hull
set_option linter.unusedVariables false
set_option maxHeartbeats 2000000 in
theorem hullHas1_any (xa ya za xb yb zb xp yp zp : Int) (b : Bool) (gI gP B : Nat) (t : TypeId) (w : World) (hI : Blk w gI t #[.bool b]) (hP : Blk w gP 101 #[.int .i64 xp, .int .i64 yp, .int .i64 zp]) (hB : B ≤ gI)
    (h1 : okC xa) (h2 : okC ya) (h3 : okC xb) (h4 : okC yb) (h5 : okC xp) (h6 : okC yp) :
    Calls Try.prog 72 #[.agg #[.int .i64 xa, .int .i64 ya, .int .i64 za], .agg #[.int .i64 xb, .int .i64 yb, .int .i64 zb], .pointer (some ⟨gI, 0, none⟩), .pointer (some ⟨gP, 0, none⟩)] w fun e w' => e = .returned (.tuple #[]) ∧
      Below B w w' ∧ Blk w' gI t #[.bool (b && decide (0 ≤ trn (xa, ya) (xb, yb) (xp, yp)))] := by
  have HT := Lib.hid fun W => hullTurn_any xa ya za xb yb zb xp yp zp W h1 h2 h3 h4 h5 h6
  obtain ⟨z, hz⟩ : ∃ z, z = trn (xa, ya) (xb, yb) (xp, yp) := ⟨_, rfl⟩
  rw [← hz] at HT ⊢
  have lI := hI.lt
  clear hz h1 h2 h3 h4 h5 h6
  have HI := Lib.hid ((hI.alloc (.cells #[.int .i64 xa, .int .i64 ya, .int .i64 za] 101)).alloc (.cells #[.int .i64 xb, .int .i64 yb, .int .i64 zb] 101))
  have HP := Lib.hid ((hP.alloc (.cells #[.int .i64 xa, .int .i64 ya, .int .i64 za] 101)).alloc (.cells #[.int .i64 xb, .int .i64 yb, .int .i64 zb] 101))
  have E2 : Hid (Below w.heap.size w ((w.alloc (.cells #[.int .i64 xa, .int .i64 ya, .int .i64 za] 101)).alloc (.cells #[.int .i64 xb, .int .i64 yb, .int .i64 zb] 101))) := Lib.hid (((Below.refl _ _).alloc (Nat.le_refl _) _).alloc (by simp) _)
  have i0 : w.cell? ⟨gI, 0, none⟩ = some (.bool b) := hI.cell 0
  have f0 := hI.frozen 0
  have j0 : ((w.alloc (.cells #[.int .i64 xa, .int .i64 ya, .int .i64 za] 101)).alloc (.cells #[.int .i64 xb, .int .i64 yb, .int .i64 zb] 101)).cell? ⟨gI, 0, none⟩ = some (.bool b) := HI.out.cell 0
  have g0 := HI.out.frozen 0
  have p0 : ((w.alloc (.cells #[.int .i64 xa, .int .i64 ya, .int .i64 za] 101)).alloc (.cells #[.int .i64 xb, .int .i64 yb, .int .i64 zb] 101)).cell? ⟨gP, 0, none⟩ = some (.int .i64 xp) := HP.out.cell 0
  have p1 : ((w.alloc (.cells #[.int .i64 xa, .int .i64 ya, .int .i64 za] 101)).alloc (.cells #[.int .i64 xb, .int .i64 yb, .int .i64 zb] 101)).cell? ⟨gP, 1, none⟩ = some (.int .i64 yp) := HP.out.cell 1
  have p2 : ((w.alloc (.cells #[.int .i64 xa, .int .i64 ya, .int .i64 za] 101)).alloc (.cells #[.int .i64 xb, .int .i64 yb, .int .i64 zb] 101)).cell? ⟨gP, 2, none⟩ = some (.int .i64 zp) := HP.out.cell 2
  have HI0 := Lib.hid hI
  clear hI hP
  cases b with
  | false =>
    go_enter Try.func72, Try.ntmps72
    go_wp2_with fail
    go_end0
    refine ⟨rfl, ?_, ?_⟩
    · first
        | exact ((((Below.refl _ _).setCell (by simpa using hB) _).alloc (by simp [World.setCell]; omega) _).alloc (by simp [World.setCell]; omega) _)
        | exact (((E2.out.mono (by omega)).setCell (by simpa using hB) _))
    · first
        | (have := ((HI0.out.set_ 0 (.bool false)).alloc (.cells #[.int .i64 xa, .int .i64 ya, .int .i64 za] 101)).alloc (.cells #[.int .i64 xb, .int .i64 yb, .int .i64 zb] 101); simpa using this)
        | (have := HI.out.set_ 0 (.bool false); simpa using this)
  | true =>
    rw [Bool.true_and]
    have sv : ∀ v : Bool, decide (0 ≤ z) = v → Calls Try.prog 72 #[.agg #[.int .i64 xa, .int .i64 ya, .int .i64 za], .agg #[.int .i64 xb, .int .i64 yb, .int .i64 zb], .pointer (some ⟨gI, 0, none⟩), .pointer (some ⟨gP, 0, none⟩)] w fun e w' => e = .returned (.tuple #[]) ∧
      Below B w w' ∧ Blk w' gI t #[.bool v] := by
      intro v hv
      cases v
      all_goals
        go_enter Try.func72, Try.ntmps72
        go_wp2_with (go_at_call 73; refine (HT.out _).mono ?_; rintro e w1 ⟨rfl, hb1⟩; have HI1 := Lib.hid (HI.out.below hb1 HI.out.lt); have E3 := Lib.hid (E2.out.trans (hb1.mono E2.out.size)); have fz := HI1.out.frozen 0; have kz : w1.cell? ⟨gI, 0, none⟩ = some (.bool true) := HI1.out.cell 0)
        go_end0
        refine ⟨rfl, (E3.out.mono (by omega)).setCell (by simpa using hB) _, ?_⟩
        have := HI1.out.set_ 0 (.bool (decide (0 ≤ z)))
        rw [hv] at this
        simpa using this
    exact sv _ rfl
end Go.Proofs.Ytgfddolchachkaa
