/-
  Contracts of ranks.Find and the reference's RanksFind: how many of an ascending list are below a number, or what is refused. Conditions: the list can be read as data.
-/
import Derived.Test.YtmcfdlijkcibbaaSearchInts
namespace Go.Dam
open Go
/-- Each number is greater than the one before. -/
def SAsc (l : List Int) : Prop := ∀ i, i + 1 < l.length → l.getD i 0 < l.getD (i + 1) 0
theorem SAsc.asc {l : List Int} (h : SAsc l) : Asc l := by
  intro i j hij
  induction j with
  | zero => intro hj; rw [show i = 0 from by omega]; exact Int.le_refl _
  | succ j ih =>
    intro hj
    rcases Nat.lt_or_ge i (j + 1) with h1 | h1
    · exact Int.le_trans (ih (by omega) (by omega)) (Int.le_of_lt (h j hj))
    · rw [show i = j + 1 from by omega]; exact Int.le_refl _
theorem rank_ex {l : List Int} (h : Asc l) (x : Int) : ∃ k, RankOf l x k := by
  have key : ∀ n, n ≤ l.length → ∃ k, k ≤ n ∧ (∀ h, h < k → l.getD h 0 < x) ∧ ∀ h, k ≤ h → h < n → x ≤ l.getD h 0 := by
    intro n
    induction n with
    | zero => intro _; exact ⟨0, by omega, fun h hh => absurd hh (by omega), fun h _ h2 => absurd h2 (by omega)⟩
    | succ n ih =>
      intro hn
      obtain ⟨k, h1, h2, h3⟩ := ih (by omega)
      by_cases hx : l.getD n 0 < x
      · refine ⟨n + 1, by omega, fun j hj => Int.lt_of_le_of_lt (h j n (by omega) (by omega)) hx, fun j h4 h5 => absurd h5 (by omega)⟩
      · refine ⟨k, by omega, h2, fun j h4 h5 => ?_⟩
        rcases Nat.lt_or_ge j n with h6 | h6
        · exact h3 j h4 h6
        · rw [show j = n from by omega]; omega
  obtain ⟨k, h1, h2, h3⟩ := key l.length (Nat.le_refl _)
  exact ⟨k, h1, h2, h3⟩
attribute [irreducible] SAsc
/-- What Find answers. -/
def RFindR (l : List Int) (x r c : Int) : Prop :=
  (300 < l.length ∧ r = 0 ∧ c = 1) ∨ (l.length ≤ 300 ∧ ¬ SAsc l ∧ r = 0 ∧ c = 4) ∨ (l.length ≤ 300 ∧ SAsc l ∧ (∃ k : Nat, RankOf l x k ∧ r = k) ∧ c = 0)
theorem RFindR.ex (l : List Int) (x : Int) : ∃ r c, RFindR l x r c := by
  by_cases h : 300 < l.length
  · exact ⟨_, _, .inl ⟨h, rfl, rfl⟩⟩
  · by_cases hs : SAsc l
    · obtain ⟨k, hk⟩ := rank_ex hs.asc x
      exact ⟨_, _, .inr (.inr ⟨by omega, hs, ⟨k, hk, rfl⟩, rfl⟩)⟩
    · exact ⟨_, _, .inr (.inl ⟨by omega, hs, rfl, rfl⟩)⟩
theorem sasc_of {l : List Int} (h : ∀ j, j + 1 < l.length → l.getD j 0 < l.getD (j + 1) 0) : SAsc l := by unfold SAsc; exact h
theorem sasc_at {l : List Int} (h : SAsc l) : ∀ j, j + 1 < l.length → l.getD j 0 < l.getD (j + 1) 0 := by unfold SAsc at h; exact h
theorem rank_facts {l : List Int} {x : Int} {k : Nat} (h : RankOf l x k) : k ≤ l.length ∧ (∀ h, h < k → l.getD h 0 < x) ∧ ∀ h, k ≤ h → h < l.length → x ≤ l.getD h 0 := by unfold RankOf at h; exact h
end Go.Dam
namespace Go.Proofs.Ytmcfdlijkcibbaa
open Go Go.RowKit Go.Dam
set_option linter.unusedVariables false
set_option maxHeartbeats 1000000 in
theorem ranksFind_any (v : Value) (l : List Int) (x r cc : Int) (w : World) (B : Nat) (hB : B ≤ w.heap.size) (h : IsInts .i64 w B v l) (hR : RFindR l x r cc) :
    Calls Try.prog 32 #[v, .int .i64 x] w fun e w' => e = .returned (.tuple #[.int .i64 r, .int .i64 cc]) ∧ Below w.heap.size w w' := by
  have HH := Lib.hid h
  obtain ⟨A, c, rfl, hc, hm, hn, hr, hw⟩ := h
  by_cases c1 : 300 < l.length
  · obtain ⟨rfl, rfl⟩ : r = 0 ∧ cc = 1 := by rcases hR with ⟨_, h2, h3⟩ | ⟨h1, _⟩ | ⟨h1, _⟩ <;> first | exact ⟨h2, h3⟩ | omega
    clear hr hw hR
    go_enter Try.func32, Try.ntmps32
    go_wp2_with fail
    go_ret2
    exact ⟨rfl, Below.refl _ _⟩
  have HR := Lib.hid hR
  clear hR
  go_enter Try.func32, Try.ntmps32
  go_wp2_with fail
  go_loopw [12] (fun iv wr => ∃ i : Nat, i ≤ l.length ∧ iv = .int .i64 i ∧ (∀ j, j + 1 < i → l.getD j 0 < l.getD (j + 1) 0) ∧ Drawn w wr) (fun iv _ => l.length - (intOf iv).toNat)
  case atStart => exact ⟨0, by omega, rfl, fun j hj => absurd hj (by omega), Drawn.refl _⟩
  case round =>
    obtain ⟨i, hi, rfl, hs, hd⟩ := hrel
    by_cases hlt : i < l.length
    · obtain ⟨b, off, rfl, hb, hcells⟩ := ints_cells hr (by omega)
      have k0 := (hd.cell ⟨b, off + i, none⟩).trans (hcells i hlt)
      have k1 : 0 < i → wr.cell? ⟨b, off + (i - 1), none⟩ = some (.int .i64 (l.getD (i - 1) 0)) := fun h => (hd.cell _).trans (hcells (i - 1) (by omega))
      have HS := Lib.hid hs
      have HD := Lib.hid hd
      clear hcells hs hd
      by_cases h0 : i = 0
      · subst h0
        clear k0 k1
        go_wp2_with fail
        go_quiet (fail)
        go_wp2
        go_roundw
        case rel => exact ⟨1, by omega, by go_num, fun j hj => absurd hj (by omega), HD.out.drewN _⟩
        case measure => simp [intOf]; omega
      · have k1 := k1 (by omega)
        have hi0 : 0 < i := by omega
        have HN := Lib.hid fun (hx : l.getD (i - 1) 0 < l.getD i 0) => (fun j (hj : j + 1 < i + 1) => by
          rcases Nat.lt_or_ge (j + 1) i with h1 | h1
          · exact HS.out j h1
          · rw [show j = i - 1 from by omega, show i - 1 + 1 = i from by omega]; exact hx : ∀ j, j + 1 < i + 1 → l.getD j 0 < l.getD (j + 1) 0)
        by_cases hx : l.getD (i - 1) 0 < l.getD i 0
        · have HN2 := Lib.hid (HN.out hx)
          clear HN
          have t1 : decide (l.getD i 0 ≤ l.getD (i - 1) 0) = false := by simpa using hx
          generalize l.getD i 0 = y at *
          generalize l.getD (i - 1) 0 = z at *
          go_wp2_with fail
          go_quiet (fail)
          go_wp2
          go_roundw
          case rel => exact ⟨i + 1, by omega, by go_num, HN2.out, HD.out.drewN _⟩
          case measure => simp [intOf]; omega
        · obtain ⟨rfl, rfl⟩ : r = 0 ∧ cc = 4 := by
            rcases HR.out with ⟨h1, _⟩ | ⟨_, _, h2, h3⟩ | ⟨_, h2, _⟩
            · omega
            · exact ⟨h2, h3⟩
            · have := sasc_at h2 (i - 1) (by omega)
              rw [show i - 1 + 1 = i from by omega] at this
              exact absurd this hx
          have t1 : decide (l.getD i 0 ≤ l.getD (i - 1) 0) = true := by simpa using hx
          clear HN HR HH HS
          generalize l.getD i 0 = y at *
          generalize l.getD (i - 1) 0 = z at *
          go_wp2_with fail
          go_quiet (fail)
          go_wp2
          go_ret2
          exact ⟨rfl, (HD.out.drewN _).below _⟩
    · obtain rfl : i = l.length := by omega
      have hsa := sasc_of hs
      obtain ⟨⟨k, hk, rfl⟩, rfl⟩ : (∃ k : Nat, RankOf l x k ∧ r = k) ∧ cc = 0 := by
        rcases HR.out with ⟨h1, _⟩ | ⟨_, h2, _⟩ | ⟨_, _, h3, h4⟩
        · omega
        · exact absurd hsa h2
        · exact ⟨h3, h4⟩
      have HS := Lib.hid (searchInts_any _ l x wr B (by rw [hd.size]; exact hB) (HH.out.below (hd.below _)) (by omega) hsa.asc)
      have HK := Lib.hid hk
      have HD := Lib.hid hd
      clear hs hsa hd hk HR hr hw
      go_wp2_with (go_at_call 57; refine (HS.out).mono ?_; rintro e w1 ⟨⟨m, rfl, hm2⟩, hb⟩)
      go_ret2
      exact ⟨ret2 (vnat (hm2.uniq HK.out)) rfl, (HD.out.below _).trans (hb.mono (by rw [HD.out.size]; exact Nat.le_refl _))⟩
end Go.Proofs.Ytmcfdlijkcibbaa
