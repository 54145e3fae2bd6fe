/-
  Texts of one claim behind each other. Conditions: none of its own.
-/
import Derived.Test.YtdmfhpigchbcbaaMTopCover08
import Derived.Test.YtdmfhpigchbcbaaMTopCover06
import Derived.Test.YtdmfhpigchbcbaaMTopCover50
import Derived.Test.YtdmfhpigchbcbaaMTopCover51
import Derived.Test.YtdmfhpigchbcbaaMTopCover31
import Derived.Test.YtdmfhpigchbcbaaMTopCover04
import Derived.Test.YtdmfhpigchbcbaaMTopCover00
/-
  Plain law of a rectangle's codes, no program in sight: the codes row by row, sorted, are those that are met, in order. Conditions: the rectangle lies in the first 256 places.
-/
namespace Go.Dam
set_option linter.unusedVariables false
/-- The codes of one row of places. -/
def codesRow (y0 x n : Nat) : List Nat := (List.range n).map fun j => cdK 8 x (y0 + j)
/-- The codes of the first rows. -/
def codesAll (x0 y0 ny m : Nat) : List Nat := (List.range m).flatMap fun i => codesRow y0 (x0 + i) ny
theorem codesRow_0 (y0 x : Nat) : codesRow y0 x 0 = [] := rfl
theorem codesRow_succ (y0 x n : Nat) : codesRow y0 x (n + 1) = codesRow y0 x n ++ [cdK 8 x (y0 + n)] := by unfold codesRow; rw [List.range_succ, List.map_append]; rfl
theorem codesRow_len (y0 x n : Nat) : (codesRow y0 x n).length = n := by unfold codesRow; simp
theorem codesAll_0 (x0 y0 ny : Nat) : codesAll x0 y0 ny 0 = [] := rfl
theorem codesAll_succ (x0 y0 ny m : Nat) : codesAll x0 y0 ny (m + 1) = codesAll x0 y0 ny m ++ codesRow y0 (x0 + m) ny := by unfold codesAll; rw [List.range_succ, List.flatMap_append]; simp
theorem codesAll_len (x0 y0 ny : Nat) : ∀ m, (codesAll x0 y0 ny m).length = m * ny
  | 0 => by rw [codesAll_0]; simp
  | m + 1 => by rw [codesAll_succ, List.length_append, codesAll_len x0 y0 ny m, codesRow_len, Nat.succ_mul]
theorem codes_mem {x0 y0 nx ny c : Nat} (hx : x0 + nx ≤ 256) (hy : y0 + ny ≤ 256) : c ∈ codesAll x0 y0 ny nx ↔ c < 65536 ∧ x0 ≤ dxK 8 c ∧ dxK 8 c < x0 + nx ∧ y0 ≤ dyK 8 c ∧ dyK 8 c < y0 + ny := by
  have e8 : (2 : Nat) ^ 8 = 256 := by decide
  have e4 : (4 : Nat) ^ 8 = 65536 := by decide
  unfold codesAll codesRow
  constructor
  · intro h
    obtain ⟨i, hi, h⟩ := List.mem_flatMap.1 h
    obtain ⟨j, hj, rfl⟩ := List.mem_map.1 h
    have hi := List.mem_range.1 hi
    have hj := List.mem_range.1 hj
    have h1 := cdK_lt 8 (x0 + i) (y0 + j)
    rw [dxK_cd 8 _ _ (by omega), dyK_cd 8 _ _ (by omega)]
    omega
  · rintro ⟨h0, h1, h2, h3, h4⟩
    refine List.mem_flatMap.2 ⟨dxK 8 c - x0, List.mem_range.2 (by omega), List.mem_map.2 ⟨dyK 8 c - y0, List.mem_range.2 (by omega), ?_⟩⟩
    rw [show x0 + (dxK 8 c - x0) = dxK 8 c from by omega, show y0 + (dyK 8 c - y0) = dyK 8 c from by omega]
    exact cdK_d 8 c (by omega)
theorem codes_ne {x0 y0 nx ny : Nat} (hx : x0 + nx ≤ 256) (hy : y0 + ny ≤ 256) : (codesAll x0 y0 ny nx).Pairwise (· ≠ ·) := by
  have e8 : (2 : Nat) ^ 8 = 256 := by decide
  unfold codesAll codesRow
  rw [List.pairwise_flatMap]
  refine ⟨fun i hi => ?_, ?_⟩
  · rw [List.pairwise_map]
    refine List.Pairwise.imp_of_mem ?_ (List.pairwise_lt_range (n := ny))
    intro a b ha hb hab e
    have ha := List.mem_range.1 ha
    have hb := List.mem_range.1 hb
    have h1 := congrArg (dyK 8) e
    rw [dyK_cd 8 _ _ (by omega), dyK_cd 8 _ _ (by omega)] at h1
    omega
  · refine List.Pairwise.imp_of_mem ?_ (List.pairwise_lt_range (n := nx))
    intro a b ha hb hab u hu v hv e
    have ha := List.mem_range.1 ha
    have hb := List.mem_range.1 hb
    obtain ⟨j, hj, rfl⟩ := List.mem_map.1 hu
    obtain ⟨j2, hj2, rfl⟩ := List.mem_map.1 hv
    have h1 := congrArg (dxK 8) e
    rw [dxK_cd 8 _ _ (by omega), dxK_cd 8 _ _ (by omega)] at h1
    omega
/-- Nats as numbers. -/
def natC (l : List Nat) : List Int := l.map fun i : Nat => (i : Int)
theorem natC_len (l : List Nat) : (natC l).length = l.length := by simp [natC]
theorem natC_snoc (l : List Nat) (x : Nat) : natC (l ++ [x]) = natC l ++ [(x : Int)] := by simp [natC]
/-- The codes that are met. -/
def metL (x0 y0 x1 y1 : Int) : List Nat := (List.range 65536).filter (inC x0 y0 x1 y1)
theorem codes_sorted {x0 y0 x1 y1 : Nat} (hx : x0 ≤ x1) (hx1 : x1 ≤ 255) (hy : y0 ≤ y1) (hy1 : y1 ≤ 255) : sortI (natC (codesAll x0 y0 (y1 + 1 - y0) (x1 + 1 - x0))) = natC (metL x0 y0 x1 y1) := by
  refine strict_uniq ?_ ?_ fun z => ?_
  · have h1 := sortI_sorted (natC (codesAll x0 y0 (y1 + 1 - y0) (x1 + 1 - x0)))
    have h2 : (natC (codesAll x0 y0 (y1 + 1 - y0) (x1 + 1 - x0))).Pairwise (· ≠ ·) := by
      unfold natC
      rw [List.pairwise_map]
      exact (codes_ne (by omega) (by omega)).imp fun h e => h (by omega)
    have h3 : (sortI (natC (codesAll x0 y0 (y1 + 1 - y0) (x1 + 1 - x0)))).Pairwise (· ≠ ·) := (sortI_perm _).nodup_iff.2 h2
    exact (h1.and h3).imp fun ⟨a, b⟩ => by omega
  · unfold natC metL
    rw [List.pairwise_map]
    exact (List.pairwise_lt_range.filter _).imp fun h => by omega
  · rw [(sortI_perm _).mem_iff]
    unfold natC metL
    rw [List.mem_map, List.mem_map]
    constructor
    · rintro ⟨c, hc, rfl⟩
      have := (codes_mem (by omega) (by omega)).1 hc
      refine ⟨c, List.mem_filter.2 ⟨List.mem_range.2 this.1, ?_⟩, rfl⟩
      unfold inC; simp only [Bool.and_eq_true, decide_eq_true_eq]; omega
    · rintro ⟨c, hc, rfl⟩
      obtain ⟨h1, h2⟩ := List.mem_filter.1 hc
      have h1 := List.mem_range.1 h1
      unfold inC at h2; simp only [Bool.and_eq_true, decide_eq_true_eq] at h2
      exact ⟨c, (codes_mem (by omega) (by omega)).2 (by omega), rfl⟩
/-- The spans of the first t codes that are met. -/
def runsTo (S : List Nat) (t : Nat) : List (Nat × Nat) := (S.take t).foldl (fun l c => addRun l c c) []
theorem runsTo_0 (S : List Nat) : runsTo S 0 = [] := rfl
theorem runsTo_succ {S : List Nat} {t : Nat} (h : t < S.length) : runsTo S (t + 1) = addRun (runsTo S t) S[t] S[t] := by
  unfold runsTo
  rw [List.take_succ_eq_append_getElem h, List.foldl_append]; rfl
theorem runsTo_end (x0 y0 x1 y1 : Int) : runsTo (metL x0 y0 x1 y1) (metL x0 y0 x1 y1).length = runsK (inC x0 y0 x1 y1) 65536 := by
  unfold runsTo
  rw [List.take_length]
  exact runs_fold _ _
theorem runsTo_len (S : List Nat) : ∀ t, (runsTo S t).length ≤ t
  | 0 => Nat.le_refl _
  | t + 1 => by
    by_cases h : t < S.length
    · rw [runsTo_succ h]; have := addRun_len (runsTo S t) S[t] S[t]; have := runsTo_len S t; omega
    · have := runsTo_len S t
      have e : runsTo S (t + 1) = runsTo S t := by unfold runsTo; rw [List.take_of_length_le (by omega), List.take_of_length_le (by omega)]
      rw [e]; omega
theorem runsTo_mem {S : List Nat} (hS : ∀ c ∈ S, c < 65536) : ∀ t, ∀ p ∈ runsTo S t, p.1 < 65536 ∧ p.2 < 65536
  | 0, p, hp => by rw [runsTo_0] at hp; cases hp
  | t + 1, p, hp => by
    by_cases h : t < S.length
    · rw [runsTo_succ h] at hp
      exact addRun_mem (runsTo_mem hS t) (hS _ (List.getElem_mem h)) (hS _ (List.getElem_mem h)) p hp
    · have e : runsTo S (t + 1) = runsTo S t := by unfold runsTo; rw [List.take_of_length_le (by omega), List.take_of_length_le (by omega)]
      rw [e] at hp
      exact runsTo_mem hS t p hp
theorem metL_lt {x0 y0 x1 y1 : Int} {c : Nat} (h : c ∈ metL x0 y0 x1 y1) : c < 65536 := List.mem_range.1 (List.mem_filter.1 h).1
theorem metL_len (x0 y0 x1 y1 : Int) : (metL x0 y0 x1 y1).length ≤ 65536 := by unfold metL; exact Nat.le_trans (List.length_filter_le _ _) (by simp)
attribute [irreducible] codesRow codesAll metL runsTo
end Go.Dam

/-
  Contracts of the reference's MortonCode and MortonBack. Conditions: the arguments are ints.
-/
namespace Go.Dam
theorem bit_nat (n i : Nat) (hn : n < 9223372036854775808) : bits .and .i64 ((n : Int) / 2 ^ i) 1 = ((n / 2 ^ i % 2 : Nat) : Int) := by
  have h : n / 2 ^ i ≤ n := Nat.div_le_self _ _
  have := and_i64 ((n : Int) / 2 ^ i) (n / 2 ^ i) 1 (by simp) (by omega) (by decide)
  rw [Nat.and_one_is_mod] at this
  exact this
theorem pow_i64 (i : Nat) (hi : i < 63) : IntKind.i64.wrap (2 ^ i) = ((2 ^ i : Nat) : Int) := by
  have h2 : 2 ^ i < 2 ^ 63 := Nat.pow_lt_pow_right (by omega) hi
  have e : ((2 : Int) ^ i) = ((2 ^ i : Nat) : Int) := by simp
  rw [IntKind.wrap_i64, e]
  generalize (2 ^ i : Nat) = q at *
  omega
end Go.Dam
namespace Go.Proofs.Ytdmfhpigchbcbaa
open Go Go.RowKit Go.Dam
set_option linter.unusedVariables false
end Go.Proofs.Ytdmfhpigchbcbaa

/-
  Contracts of morton.Cover and of the reference's MortonCover. Conditions: none.
-/
namespace Go.Dam
open Go Go.RowKit
set_option linter.unusedVariables false
/-- What is refused of a rectangle. -/
def BadCover (x0 y0 x1 y1 : Int) : Prop := x0 < 0 ∨ y0 < 0 ∨ x1 < x0 ∨ y1 < y0 ∨ 255 < x1 ∨ 255 < y1
/-- What Cover answers. -/
def CoverR (x0 y0 x1 y1 : Int) (r : List Int) (cc : Int) : Prop := (BadCover x0 y0 x1 y1 ∧ r = [] ∧ cc = 2) ∨ (¬ BadCover x0 y0 x1 y1 ∧ r = flatR (runsK (inC x0 y0 x1 y1) 65536) ∧ cc = 0)
theorem CoverR.ex (x0 y0 x1 y1 : Int) : ∃ r cc, CoverR x0 y0 x1 y1 r cc := by
  by_cases h : BadCover x0 y0 x1 y1
  · exact ⟨_, _, .inl ⟨h, rfl, rfl⟩⟩
  · exact ⟨_, _, .inr ⟨h, rfl, rfl⟩⟩
theorem CoverR.bad {x0 y0 x1 y1 : Int} {r : List Int} {cc : Int} (h : CoverR x0 y0 x1 y1 r cc) (hb : BadCover x0 y0 x1 y1) : r = [] ∧ cc = 2 := by
  rcases h with ⟨_, h1, h2⟩ | ⟨h1, _⟩
  · exact ⟨h1, h2⟩
  · exact absurd hb h1
theorem CoverR.ok {x0 y0 x1 y1 : Int} {r : List Int} {cc : Int} (h : CoverR x0 y0 x1 y1 r cc) (hb : ¬ BadCover x0 y0 x1 y1) : r = flatR (runsK (inC x0 y0 x1 y1) 65536) ∧ cc = 0 := by
  rcases h with ⟨h1, _⟩ | ⟨_, h1, h2⟩
  · exact absurd h1 hb
  · exact ⟨h1, h2⟩
/-- Spans and a code are returned. -/
def GivesSpans (r : List Int) (c : Int) (w : World) (e : Ending) (w' : World) : Prop := ∃ v k, e = .returned (.tuple #[v, .int .i64 c]) ∧ k ≤ 65536 ∧ IsFlat 2 w' w'.heap.size v k r ∧ Below w.heap.size w w'
theorem runs_wf (x0 y0 x1 y1 : Int) : ∀ z ∈ flatR (runsK (inC x0 y0 x1 y1) 65536), (Lit.int .i64 z).wf = true := fun z hz => by
  have := flatR_wf (runsK_mem (inC x0 y0 x1 y1) 65536) z hz
  exact WalkArith.wf_i64 (by omega)
end Go.Dam
namespace Go.Proofs.Ytdmfhpigchbcbaa
open Go Go.RowKit Go.Dam
set_option linter.unusedVariables false
set_option maxHeartbeats 4000000 in
theorem mortonCover_any (x0 y0 x1 y1 : Int) (r : List Int) (cc : Int) (w : World) (hR : CoverR x0 y0 x1 y1 r cc) :
    Calls Try.prog 15 #[.agg #[.int .i64 x0, .int .i64 y0, .int .i64 x1, .int .i64 y1]] w (GivesSpans r cc w) := by
  have HB0 := Lib.hid ((Below.refl w.heap.size w).alloc (Nat.le_refl _) (.cells #[.int .i64 x0, .int .i64 y0, .int .i64 x1, .int .i64 y1] 51))
  have HBad := Lib.hid fun h => hR.bad h
  have HOk := Lib.hid fun h => hR.ok h
  clear hR
  by_cases n0 : x0 < 0
  · have t0 : decide (x0 < 0) = true := decide_eq_true n0
    obtain ⟨rfl, rfl⟩ := HBad.out (.inl n0)
    clear HBad HOk
    go_enter Try.func15, Try.ntmps15
    go_wp2_with fail
    go_ret2
    exact ⟨_, 0, rfl, by omega, isFlat_nil _ _ _, HB0.out⟩
  have t0 : decide (x0 < 0) = false := decide_eq_false n0
  by_cases n1 : y0 < 0
  · have t1 : decide (y0 < 0) = true := decide_eq_true n1
    obtain ⟨rfl, rfl⟩ := HBad.out (.inr (.inl n1))
    clear HBad HOk
    go_enter Try.func15, Try.ntmps15
    go_wp2_with fail
    go_ret2
    exact ⟨_, 0, rfl, by omega, isFlat_nil _ _ _, HB0.out⟩
  have t1 : decide (y0 < 0) = false := decide_eq_false n1
  by_cases n2 : x1 < x0
  · have t2 : decide (x1 < x0) = true := decide_eq_true n2
    obtain ⟨rfl, rfl⟩ := HBad.out (.inr (.inr (.inl n2)))
    clear HBad HOk
    go_enter Try.func15, Try.ntmps15
    go_wp2_with fail
    go_ret2
    exact ⟨_, 0, rfl, by omega, isFlat_nil _ _ _, HB0.out⟩
  have t2 : decide (x1 < x0) = false := decide_eq_false n2
  by_cases n3 : y1 < y0
  · have t3 : decide (y1 < y0) = true := decide_eq_true n3
    obtain ⟨rfl, rfl⟩ := HBad.out (.inr (.inr (.inr (.inl n3))))
    clear HBad HOk
    go_enter Try.func15, Try.ntmps15
    go_wp2_with fail
    go_ret2
    exact ⟨_, 0, rfl, by omega, isFlat_nil _ _ _, HB0.out⟩
  have t3 : decide (y1 < y0) = false := decide_eq_false n3
  by_cases n4 : 256 ≤ x1
  · have t4 : decide (256 ≤ x1) = true := decide_eq_true n4
    obtain ⟨rfl, rfl⟩ := HBad.out (.inr (.inr (.inr (.inr (.inl (by omega))))))
    clear HBad HOk
    go_enter Try.func15, Try.ntmps15
    go_wp2_with fail
    go_ret2
    exact ⟨_, 0, rfl, by omega, isFlat_nil _ _ _, HB0.out⟩
  have t4 : decide (256 ≤ x1) = false := decide_eq_false n4
  by_cases n5 : 256 ≤ y1
  · have t5 : decide (256 ≤ y1) = true := decide_eq_true n5
    obtain ⟨rfl, rfl⟩ := HBad.out (.inr (.inr (.inr (.inr (.inr (by omega))))))
    clear HBad HOk
    go_enter Try.func15, Try.ntmps15
    go_wp2_with fail
    go_ret2
    exact ⟨_, 0, rfl, by omega, isFlat_nil _ _ _, HB0.out⟩
  have t5 : decide (256 ≤ y1) = false := decide_eq_false n5
  obtain ⟨rfl, rfl⟩ := HOk.out (by unfold BadCover; omega)
  have HC : Hid (Calls Try.prog 33 #[.agg #[.int .i64 x0, .int .i64 y0, .int .i64 x1, .int .i64 y1], .int .i64 0, .int .i64 0, .int .i64 256, .slice none 0 0] (w.alloc (.cells #[.int .i64 x0, .int .i64 y0, .int .i64 x1, .int .i64 y1] 51)) (GivesCover 62 w.heap.size (w.alloc (.cells #[.int .i64 x0, .int .i64 y0, .int .i64 x1, .int .i64 y1] 51)) (.slice none 0 0) (runsK (inC x0 y0 x1 y1) 65536))) := Lib.hid (by
    have e4 : (4 : Nat) ^ 8 = 65536 := by decide
    have e2 : (2 : Nat) ^ 8 = 256 := by decide
    have := cover_any x0 y0 x1 y1 w.heap.size 8 0 (w.alloc (.cells #[.int .i64 x0, .int .i64 y0, .int .i64 x1, .int .i64 y1] 51)) (.slice none 0 0) (by omega) (by omega) (by simp) (by rw [Nat.mul_zero, runsK_0, flatR_nil]; exact World.ownsRow_nil _ _ _ _)
    rw [Nat.sub_self, dxK_0, dyK_0, Nat.mul_zero, e2] at this
    exact this)
  have HL : Hid ((runsK (inC x0 y0 x1 y1) 65536).length ≤ 65536) := Lib.hid (runsK_len _ _)
  clear HBad HOk
  go_enter Try.func15, Try.ntmps15
  go_wp2_with (go_at_call 33; refine (HC.out).mono ?_; rintro e1 w1 ⟨v1, rfl, ho1, hg1⟩)
  go_ret2
  exact ⟨_, _, rfl, HL.out, own_flat ho1 (by have := HL.out; omega) (runs_wf _ _ _ _), HB0.out.trans (hg1.below (by simp) (fun g e => by cases e))⟩
end Go.Proofs.Ytdmfhpigchbcbaa

/-
  Contracts of damaskkeep's Picked and Numbers. Conditions: the arguments can be read as data; the bound is above 0.
-/
namespace Go.Dam
open Go Go.RowKit
set_option linter.unusedVariables false
theorem tmod_neg {a n : Int} (ha : a < 0) (hn : 0 < n) : (a.tmod n = 0 ∧ a % n = 0) ∨ (a.tmod n < 0 ∧ -n < a.tmod n ∧ a % n = a.tmod n + n) := by
  have h1 := Int.tmod_add_mul_tdiv a n
  have h2 := Int.emod_add_mul_ediv a n
  have h3 := Int.emod_nonneg a (show n ≠ 0 by omega)
  have h4 := Int.emod_lt_of_pos a hn
  have h5 : a.tmod n ≤ 0 := by
    have := Int.tmod_nonneg (a := -a) n (by omega)
    rw [Int.neg_tmod] at this
    omega
  have h6 : -n < a.tmod n := by
    have := Int.tmod_lt_of_pos (-a) hn
    rw [Int.neg_tmod] at this
    omega
  by_cases h0 : a.tmod n = 0
  · refine .inl ⟨h0, ?_⟩
    rw [h0, Int.zero_add] at h1
    rw [← h1]
    exact Int.mul_emod_right n _
  · refine .inr ⟨by omega, h6, ?_⟩
    have e : a = (a.tmod n + n) + n * (a.tdiv n - 1) := by rw [Int.mul_sub]; omega
    conv => lhs; rw [e]
    rw [Int.add_mul_emod_self_left]
    exact Int.emod_eq_of_lt (by omega) (by omega)
end Go.Dam
namespace Go.Proofs.Ytdmfhpigchbcbaa
open Go Go.RowKit Go.Dam
set_option linter.unusedVariables false
set_option maxHeartbeats 1000000 in
theorem picked_any (a n : Int) (w : World) (ha : I64 a) (hn : 0 < n ∧ n ≤ 1099511627776) : Calls Try.prog 6 #[.int .i64 a, .int .i64 n] w fun e w' => e = .returned (.int .i64 (a % n)) ∧ w = w' := by
  unfold I64 at ha
  have hn0 : ¬ n = 0 := by omega
  have hn1 : (n == 0) = false := beq_eq_false_iff_ne.2 hn0
  by_cases h0 : 0 ≤ a
  · have h1 := Int.emod_nonneg a (show n ≠ 0 by omega)
    have h2 := Int.emod_lt_of_pos a hn.1
    have t1 : decide (a % n < 0) = false := decide_eq_false (by omega)
    have e1 : a.tmod n = a % n := Int.tmod_eq_emod_of_nonneg h0
    go_enter Try.func6, Try.ntmps6
    go_wp2_with fail
    go_ret
    exact ⟨ret_int (by first | rfl | omega), rfl⟩
  · have hE := Lib.hid (tmod_neg (a := a) (n := n) (by omega) hn.1)
    obtain ⟨q, hq⟩ : ∃ q, a.tmod n = q := ⟨_, rfl⟩
    rw [hq] at hE
    rcases hE.out with ⟨h1, h2⟩ | ⟨h1, h2, h3⟩
    · subst h1
      have t1 : decide ((0 : Int) < 0) = false := by decide
      have HQ := Lib.hid h2
      clear h2
      go_enter Try.func6, Try.ntmps6
      go_wp2_with fail
      go_ret
      exact ⟨ret_int (by rw [HQ.out]), rfl⟩
    · have t1 : decide (q < 0) = true := decide_eq_true h1
      have HQ := Lib.hid h3
      clear h3
      have hw1 : IntKind.i64.wrap q = q := IntWalk.i64_in _ (by omega)
      go_enter Try.func6, Try.ntmps6
      go_wp2_with fail
      go_ret
      exact ⟨ret_int (by rw [HQ.out]), rfl⟩
theorem wf_int {z : Int} (h : (Lit.int .i64 z).wf = true) : I64 z := by
  unfold I64
  have := wf_i64 h
  omega
/-- The numbers, picked. -/
def pickL (l : List Int) (m : Nat) (b : Int) : List Int := (l.take m).map fun x => x % b
theorem pickL_succ {l : List Int} {i : Nat} (h : i < l.length) (b : Int) : pickL l (i + 1) b = pickL l i b ++ [l.getD i 0 % b] := by
  unfold pickL
  rw [List.take_succ_eq_append_getElem h, List.map_append, List.getD_eq_getElem?_getD, List.getElem?_eq_getElem h]; rfl
theorem pickL_len {l : List Int} {i : Nat} (h : i ≤ l.length) (b : Int) : (pickL l i b).length = i := by unfold pickL; rw [List.length_map, List.length_take]; omega
set_option maxHeartbeats 2000000 in
theorem numbers_any (v : Value) (l : List Int) (m b : Nat) (w : World) (B : Nat) (hB : B ≤ w.heap.size) (h : IsInts .i64 w B v l) (hm : m ≤ 1000) (hb : 0 < b ∧ b ≤ 1000000) :
    Calls Try.prog 5 #[v, .int .i64 m, .int .i64 b] w fun e w' => (∃ u n, e = .returned u ∧ n = min l.length m ∧ w'.ownsRow w.heap.size 3 1 u n ((pickL l n b).map (Value.int .i64))) ∧ Below w.heap.size w w' := by
  obtain ⟨A, c, rfl, hc, hmx, hn0, hr, hw⟩ := h
  obtain ⟨n, hn⟩ : ∃ n, min l.length m = n := ⟨_, rfl⟩
  obtain ⟨len, hlen⟩ : ∃ k, l.length = k := ⟨_, rfl⟩
  have HR := Lib.hid hr
  have HW := Lib.hid hw
  have HLen := Lib.hid hlen
  rw [hlen] at hn ⊢
  have hn2 : n ≤ len ∧ n ≤ m ∧ (n = len ∨ n = m) := by omega
  have HN := Lib.hid hn
  have HP := Lib.hid fun x W (hx : I64 x) => picked_any x (b : Int) W hx (by omega)
  rw [hlen] at hc hn0
  clear hr hw hlen hn
  go_enter Try.func5, Try.ntmps5
  go_wp2_with fail
  go_loopw [7, 8] (fun ov iv wr => ∃ i : Nat, i ≤ n ∧ iv = .int .i64 i ∧ Hid (wr.ownsRow w.heap.size 3 1 ov i ((pickL l i b).map (Value.int .i64))) ∧ Hid (Below w.heap.size w wr)) (fun _ iv _ => n - (intOf iv).toNat)
  case atStart => exact ⟨0, by omega, rfl, Lib.hid (World.ownsRow_nil _ _ _ _), Lib.hid (Below.refl _ _)⟩
  case round =>
    obtain ⟨i, hi, rfl, HO, HB⟩ := hrel
    obtain ⟨wo, rfl⟩ : ∃ wo : World, wo = wr := ⟨_, rfl⟩
    obtain ⟨A3, c3, rfl⟩ := own_shape HO.out
    have hz := HB.out.size
    have i2 : i < len ∨ i = len := by omega
    rcases i2 with i2 | rfl
    · have t1 : decide ((i : Int) < (len : Int)) = true := decide_eq_true (by omega)
      by_cases i3 : i < m
      · have t2 : decide ((i : Int) < (m : Int)) = true := decide_eq_true (by omega)
        obtain ⟨bk, off, rfl, hbk, hcells⟩ := ints_cells (HR.out) (by rw [HLen.out]; omega)
        have k0 := (HB.out.cell (p := ⟨bk, off + i, none⟩) (by show bk < _; omega)).trans (hcells i (by rw [HLen.out]; omega))
        have HX : Hid (I64 (l.getD i 0)) := Lib.hid (wf_int (HW.out _ (by rw [List.getD_eq_getElem?_getD, List.getElem?_eq_getElem (by rw [HLen.out]; exact i2)]; exact List.getElem_mem _)))
        have HS : Hid (pickL l (i + 1) b = pickL l i b ++ [l.getD i 0 % (b : Int)]) := Lib.hid (pickL_succ (by rw [HLen.out]; exact i2) _)
        have HPx := Lib.hid fun W => HP.out _ W HX.out
        generalize l.getD i 0 = x at *
        clear hcells
        go_wp2_with (first
          | (go_at_call 6; refine (HPx.out _).mono ?_; rintro e w1 ⟨rfl, rfl⟩)
          | (at_builtin; refine wpList_pushD el_int rfl _ _ rfl w.heap.size _ i _ (HO.out.alloc _) rfl wo.heap.size 1 _ rfl (by simp; rfl) rfl (by omega) (by omega) (by simp; omega) ?_; intro v' w2 hown2 hg2 hl2))
        go_roundw
        case rel => exact ⟨i + 1, by omega, by go_num, Lib.hid (by rw [HS.out, List.map_append]; exact hown2), Lib.hid (below_push (HB.out.alloc hz _) (HO.out.alloc _) (Nat.le_refl _) (by simp; omega) hg2)⟩
        case measure => simp [intOf]; omega
      · have t2 : decide ((i : Int) < (m : Int)) = false := decide_eq_false (by omega)
        obtain rfl : i = n := by omega
        go_wp2_with fail
        go_ret
        exact ⟨⟨_, _, rfl, HN.out.symm, HO.out⟩, HB.out⟩
    · have t1 : decide ((i : Int) < (i : Int)) = false := decide_eq_false (by omega)
      obtain rfl : i = n := by omega
      go_wp2_with fail
      go_ret
      refine ⟨?_, HB.out⟩
      exact ⟨_, rfl, HO.out⟩
end Go.Proofs.Ytdmfhpigchbcbaa
