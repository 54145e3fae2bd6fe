/-
  Contract of the reference's RanksFind and the walk of the law RanksFinds: both answer one number and one code. Conditions: the arguments can be read as data.
-/
import Derived.Test.YtmcfdlijkcibbaaRanksFind
namespace Go.Proofs.Ytmcfdlijkcibbaa
open Go Go.RowKit Go.Dam
set_option linter.unusedVariables false
set_option maxHeartbeats 1000000 in
theorem refRanksFind_any (v : Value) (l : List Int) (x r cc : Int) (w : World) (B : Nat) (hB : B ≤ w.heap.size) (h : IsInts .i64 w B v l) (hR : RFindR l x r cc) :
    Calls Try.prog 33 #[v, .int .i64 x] w fun e w' => e = .returned (.tuple #[.int .i64 r, .int .i64 cc]) ∧ w = w' := by
  obtain ⟨A, c, rfl, hc, hm, hn, hr, hw⟩ := h
  by_cases c1 : 300 < l.length
  · obtain ⟨rfl, rfl⟩ : r = 0 ∧ cc = 1 := by rcases hR with ⟨_, h2, h3⟩ | ⟨h1, _⟩ | ⟨h1, _⟩ <;> first | exact ⟨h2, h3⟩ | omega
    clear hr hw hR
    go_enter Try.func33, Try.ntmps33
    go_wp2_with fail
    go_ret2
    exact ⟨rfl, rfl⟩
  have HR := Lib.hid hR
  clear hR
  go_enter Try.func33, Try.ntmps33
  go_wp2_with fail
  go_loop [6, 14] (fun nv iv => ∃ i m : Nat, i ≤ l.length ∧ iv = .int .i64 i ∧ nv = .int .i64 m ∧ m ≤ i ∧ (∀ j, j + 1 < i → l.getD j 0 < l.getD (j + 1) 0) ∧ ∀ k, RankOf l x k → m = min i k) (fun _ iv => l.length - (intOf iv).toNat)
  case atStart => exact ⟨0, 0, by omega, rfl, rfl, by omega, fun j hj => absurd hj (by omega), fun k _ => by omega⟩
  case round =>
    obtain ⟨i, m, hi, rfl, rfl, hmi, hs, hk⟩ := hrel
    by_cases hlt : i < l.length
    · obtain ⟨b, off, rfl, hb, hcells⟩ := ints_cells hr (by omega)
      have k0 := hcells i hlt
      have k1 : 0 < i → w.cell? ⟨b, off + (i - 1), none⟩ = some (.int .i64 (l.getD (i - 1) 0)) := fun h => hcells (i - 1) (by omega)
      have HS := Lib.hid hs
      have HK1 : Hid (l.getD i 0 < x → ∀ k, RankOf l x k → m + 1 = min (i + 1) k) := Lib.hid fun hx k hkk => by
        have h1 := hk k hkk
        rcases Nat.lt_or_ge i k with h2 | h2
        · omega
        · have := (rank_facts hkk).2.2 i h2 hlt; omega
      have HK0 : Hid (¬ l.getD i 0 < x → ∀ k, RankOf l x k → m = min (i + 1) k) := Lib.hid fun hx k hkk => by
        have h1 := hk k hkk
        rcases Nat.lt_or_ge i k with h2 | h2
        · have := (rank_facts hkk).2.1 i h2; omega
        · omega
      clear hcells hs hk
      by_cases h0 : i = 0
      · subst h0
        rw [Nat.add_zero] at k0
        clear k1
        by_cases hx : l.getD 0 0 < x
        · have HK := Lib.hid (HK1.out hx)
          clear HK1 HK0
          generalize l.getD 0 0 = y at *
          go_wp2_with fail
          go_round
          case rel => exact ⟨1, m + 1, by omega, by go_num, by go_num, by omega, fun j hj => absurd hj (by omega), HK.out⟩
          case measure => simp [intOf]; omega
        · have HK := Lib.hid (HK0.out hx)
          clear HK1 HK0
          generalize l.getD 0 0 = y at *
          go_wp2_with fail
          go_round
          case rel => exact ⟨1, m, by omega, by go_num, rfl, by omega, fun j hj => absurd hj (by omega), HK.out⟩
          case measure => simp [intOf]; omega
      · have k1 := k1 (by omega)
        have hi0 : 0 < i := by omega
        by_cases hz : l.getD (i - 1) 0 < l.getD i 0
        · have HN : Hid (∀ j, j + 1 < i + 1 → l.getD j 0 < l.getD (j + 1) 0) := Lib.hid fun j hj => by
            rcases Nat.lt_or_ge (j + 1) i with h1 | h1
            · exact HS.out j h1
            · rw [show j = i - 1 from by omega, show i - 1 + 1 = i from by omega]; exact hz
          by_cases hx : l.getD i 0 < x
          · have HK := Lib.hid (HK1.out hx)
            clear HK1 HK0
            have t1 : decide (l.getD i 0 ≤ l.getD (i - 1) 0) = false := by simpa using hz
            generalize l.getD i 0 = y at *
            generalize l.getD (i - 1) 0 = z at *
            go_wp2_with fail
            go_round
            case rel => exact ⟨i + 1, m + 1, by omega, by go_num, by go_num, by omega, HN.out, HK.out⟩
            case measure => simp [intOf]; omega
          · have HK := Lib.hid (HK0.out hx)
            clear HK1 HK0
            have t1 : decide (l.getD i 0 ≤ l.getD (i - 1) 0) = false := by simpa using hz
            generalize l.getD i 0 = y at *
            generalize l.getD (i - 1) 0 = z at *
            go_wp2_with fail
            go_round
            case rel => exact ⟨i + 1, m, by omega, by go_num, rfl, by omega, HN.out, HK.out⟩
            case measure => simp [intOf]; omega
        · obtain ⟨rfl, rfl⟩ : r = 0 ∧ cc = 4 := by
            rcases HR.out with ⟨h1, _⟩ | ⟨_, _, h2, h3⟩ | ⟨_, h2, _⟩
            · omega
            · exact ⟨h2, h3⟩
            · have := sasc_at h2 (i - 1) (by omega)
              rw [show i - 1 + 1 = i from by omega] at this
              exact absurd this hz
          have t1 : decide (l.getD i 0 ≤ l.getD (i - 1) 0) = true := by simpa using hz
          clear HR HS HK1 HK0
          generalize l.getD i 0 = y at *
          generalize l.getD (i - 1) 0 = z at *
          go_wp2_with fail
          go_ret2
          exact ⟨rfl, rfl⟩
    · obtain rfl : i = l.length := by omega
      have hsa := sasc_of hs
      obtain ⟨⟨k, hkk, rfl⟩, rfl⟩ : (∃ k : Nat, RankOf l x k ∧ r = k) ∧ cc = 0 := by
        rcases HR.out with ⟨h1, _⟩ | ⟨_, h2, _⟩ | ⟨_, _, h3, h4⟩
        · omega
        · exact absurd hsa h2
        · exact ⟨h3, h4⟩
      have HE : Hid (m = k) := Lib.hid (by have := hk k hkk; have := (rank_facts hkk).1; omega)
      clear hs hsa hk hkk HR hr hw
      go_wp2_with fail
      go_ret2
      exact ⟨ret2 (vnat HE.out) rfl, rfl⟩
set_option maxHeartbeats 400000 in
theorem ranksFinds_walk (v u : Value) (w : World) (h : ∃ l, IsInts .i64 w w.heap.size v l) (h' : ∃ x : Int, u = .int .i64 x ∧ I64 x) :
    Calls Try.prog 11 #[v, u] w fun e w' => e = .returned (.bool true) ∧ Below w.heap.size w w' := by
  obtain ⟨l, h⟩ := h
  obtain ⟨x, rfl, hx⟩ := h'
  obtain ⟨r, cc, hR⟩ := RFindR.ex l x
  have H1 := Lib.hid (ranksFind_any v l x r cc w _ (Nat.le_refl _) h hR)
  have H2 := Lib.hid fun W (hb : Below w.heap.size w W) => refRanksFind_any v l x r cc W _ hb.size (h.below hb) hR
  obtain ⟨A, c, rfl, hc, hm, hn, hr, hw⟩ := h
  clear hr hw hR
  go_enter Try.func11, Try.ntmps11
  go_wp2_with (first
    | (go_at_call 32; refine (H1.out).mono ?_; rintro e w1 ⟨rfl, hb1⟩)
    | (go_at_call 33; refine (H2.out _ hb1).mono ?_; rintro e w2 ⟨rfl, rfl⟩))
  all_goals (go_ret; exact ⟨ret_bool (by simp), hb1⟩)
end Go.Proofs.Ytmcfdlijkcibbaa
