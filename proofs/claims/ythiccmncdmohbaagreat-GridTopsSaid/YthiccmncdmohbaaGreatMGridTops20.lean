/-
  Contract of sort.SearchInts (with sort.Search and its closure) on an ascending list of at most 2^40 ints: how many of them are less than a number. Conditions: the list can be read as data and does not fall.
-/
import Derived.Test.YthiccmncdmohbaaGreatMGridTops03
set_option linter.unusedVariables false
set_option linter.unusedSimpArgs false
namespace Go.Dam
open Go
/-- The list does not fall. -/
def Asc (l : List Int) : Prop := ∀ i j, i ≤ j → j < l.length → l.getD i 0 ≤ l.getD j 0
/-- k is how many of the ascending list are less than x. -/
def RankOf (l : List Int) (x : Int) (k : Nat) : Prop := k ≤ l.length ∧ (∀ h, h < k → l.getD h 0 < x) ∧ ∀ h, k ≤ h → h < l.length → x ≤ l.getD h 0
theorem RankOf.uniq {l : List Int} {x : Int} {k m : Nat} (h : RankOf l x k) (g : RankOf l x m) : k = m := by
  rcases Nat.lt_trichotomy k m with h1 | h1 | h1
  · have a := g.2.1 k h1
    have b := h.2.2 k (Nat.le_refl _) (by have := g.1; omega)
    omega
  · exact h1
  · have a := h.2.1 m h1
    have b := g.2.2 m (Nat.le_refl _) (by have := h.1; omega)
    omega
end Go.Dam
namespace Go.Proofs.YthiccmncdmohbaaGreat
open Go Go.RowKit Go.Dam
set_option linter.unusedVariables false
set_option maxHeartbeats 400000 in
theorem siClos_any (h n c b off a1 a2 : Nat) (x y : Int) (w : World) (hh : h < n) (hn : n ≤ 1099511627776) (h1 : w.cell? ⟨a1, 0, none⟩ = some (.slice (some ⟨b, off, none⟩) n c)) (h2 : w.cell? ⟨a2, 0, none⟩ = some (.int .i64 x)) (h3 : w.cell? ⟨b, off + h, none⟩ = some (.int .i64 y)) :
    Calls Tryz.prog 74 #[.int .i64 h, .pointer (some ⟨a1, 0, none⟩), .pointer (some ⟨a2, 0, none⟩)] w fun e w' => e = .returned (.bool (decide (x ≤ y))) ∧ Drawn w w' := by
  go_enter Tryz.func74, Tryz.ntmps74
  go_wp2_with fail
  go_quiet (fail)
  go_wp2
  go_ret
  exact ⟨rfl, ⟨_, rfl⟩⟩
set_option maxHeartbeats 1000000 in
theorem siSearch_any (l : List Int) (c b off a1 a2 : Nat) (x : Int) (w : World) (hn : l.length ≤ 1099511627776) (ha : Asc l) (h1 : 0 < l.length → w.cell? ⟨a1, 0, none⟩ = some (.slice (some ⟨b, off, none⟩) l.length c)) (h2 : w.cell? ⟨a2, 0, none⟩ = some (.int .i64 x))
    (h3 : ∀ h, h < l.length → w.cell? ⟨b, off + h, none⟩ = some (.int .i64 (l.getD h 0))) :
    Calls Tryz.prog 48 #[.int .i64 l.length, .func (.func 74) #[] #[.pointer (some ⟨a1, 0, none⟩), .pointer (some ⟨a2, 0, none⟩)]] w fun e w' => (∃ k : Nat, e = .returned (.int .i64 k) ∧ RankOf l x k) ∧ Drawn w w' := by
  have H1 := Lib.hid h1
  have H2 := Lib.hid h2
  have H3 := Lib.hid h3
  have HA := Lib.hid ha
  clear h1 h2 h3 ha
  go_enter Tryz.func48, Tryz.ntmps48
  go_wp2_with fail
  go_loopw [5, 6] (fun iv jv wr => ∃ i j : Nat, i ≤ j ∧ j ≤ l.length ∧ iv = .int .i64 i ∧ jv = .int .i64 j ∧ (∀ h, h < i → l.getD h 0 < x) ∧ (∀ h, j ≤ h → h < l.length → x ≤ l.getD h 0) ∧ Drawn w wr) (fun iv jv _ => (intOf jv).toNat - (intOf iv).toNat)
  case atStart => exact ⟨0, l.length, by omega, by omega, rfl, rfl, fun h hh => absurd hh (by omega), fun h h1 h2 => absurd h2 (by omega), Drawn.refl _⟩
  case round =>
    obtain ⟨i, j, hi, hj, rfl, rfl, hlo, hhi, hd⟩ := hrel
    by_cases hlt : i < j
    · have HC := fun b hb => Lib.hid fun W (hW : Drawn w W) => (siClos_any ((i + j) / 2) l.length c _ off a1 a2 x (l.getD ((i + j) / 2) 0) W (by omega) hn ((hW.cell _).trans (H1.out (by omega))) ((hW.cell _).trans H2.out) ((hW.cell _).trans (H3.out _ (by omega)))).mono fun e w' ⟨he, hd'⟩ => (⟨he.trans (ret_bool hb), hd'⟩ : e = Ending.returned (.bool b) ∧ Drawn W w')
      have EM : Hid (((i : Int) + (j : Int)) / 2 = (((i + j) / 2 : Nat) : Int)) := Lib.hid (by simp)
      have HLO := Lib.hid hlo
      have HHI := Lib.hid hhi
      have HD := Lib.hid hd
      clear hlo hhi hd
      by_cases hc : x ≤ l.getD ((i + j) / 2) 0
      · have HC := HC true (by simpa using hc)
        have HX := Lib.hid hc
        clear hc
        go_wp2_with (rw [EM.out]; go_at_call 74; refine (HC.out _ HD.out).mono ?_; rintro e w1 ⟨rfl, hd1⟩)
        go_roundw
        case rel => exact ⟨i, (i + j) / 2, by omega, by omega, rfl, by go_num, HLO.out, fun h h1 h2 => Int.le_trans HX.out (HA.out _ _ h1 h2), HD.out.trans hd1⟩
        case measure => simp [intOf]; omega
      · have HC := HC false (by simpa using hc)
        have HX := Lib.hid hc
        clear hc
        go_wp2_with (rw [EM.out]; go_at_call 74; refine (HC.out _ HD.out).mono ?_; rintro e w1 ⟨rfl, hd1⟩)
        go_roundw
        case rel => exact ⟨(i + j) / 2 + 1, j, by omega, by omega, by go_num, rfl, fun h h1 => Int.lt_of_le_of_lt (HA.out _ _ (by omega : h ≤ (i + j) / 2) (by omega)) HX.out, HHI.out, HD.out.trans hd1⟩
        case measure => simp [intOf]; omega
    · obtain rfl : i = j := by omega
      have HR : Hid (RankOf l x i) := Lib.hid ⟨hj, hlo, hhi⟩
      clear hlo hhi
      go_wp2
      go_ret
      exact ⟨⟨i, rfl, HR.out⟩, hd⟩
set_option maxHeartbeats 400000 in
theorem searchInts_any (v : Value) (l : List Int) (x : Int) (w : World) (B : Nat) (hB : B ≤ w.heap.size) (h : IsInts .i64 w B v l) (hn : l.length ≤ 1099511627776) (ha : Asc l) :
    Calls Tryz.prog 44 #[v, .int .i64 x] w fun e w' => (∃ k : Nat, e = .returned (.int .i64 k) ∧ RankOf l x k) ∧ Below w.heap.size w w' := by
  obtain ⟨A, c, rfl, hc, hm, _, hr, hw⟩ := h
  have HS : Hid (Calls Tryz.prog 48 #[.int .i64 l.length, .func (.func 74) #[] #[.pointer (some ⟨w.heap.size, 0, none⟩), .pointer (some ⟨w.heap.size + 1, 0, none⟩)]] ((w.alloc (.cells #[.slice A l.length c] 25)).alloc (.cells #[.int .i64 x] 3)) fun e w' => (∃ k : Nat, e = .returned (.int .i64 k) ∧ RankOf l x k) ∧ Drawn ((w.alloc (.cells #[.slice A l.length c] 25)).alloc (.cells #[.int .i64 x] 3)) w') := Lib.hid (by
    rcases Nat.eq_zero_or_pos l.length with h0 | h0
    · exact siSearch_any l c 0 0 _ _ x _ hn ha (fun h => absurd h (by omega)) (by simp) (fun h hh => absurd hh (by omega))
    · obtain ⟨b, off, rfl, hb, hcells⟩ := ints_cells hr h0
      refine siSearch_any l c b off _ _ x _ hn ha (fun _ => by simp) (by simp) (fun h hh => ?_)
      rw [World.cell?_alloc_lt _ _ _ (by simp; omega), World.cell?_alloc_lt _ _ _ (by show b < _; omega)]
      exact hcells h hh)
  clear hr hw ha
  go_enter Tryz.func44, Tryz.ntmps44
  go_wp2_with (go_at_call 48; refine (HS.out).mono ?_; rintro e w1 ⟨⟨k, rfl, hk⟩, hd⟩)
  go_ret
  exact ⟨⟨k, rfl, hk⟩, ((((Below.refl _ _).alloc (Nat.le_refl _) _).alloc (by simp) _).trans (hd.below _))⟩
end Go.Proofs.YthiccmncdmohbaaGreat
