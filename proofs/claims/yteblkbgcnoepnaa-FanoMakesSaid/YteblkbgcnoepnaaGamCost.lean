/-
  Contracts of gam.kinded, gam.Cost and the reference's GamCost, and the walk of the law GamCosts. Conditions: the arguments are ints.
-/
import Derived.Test.YteblkbgcnoepnaaGamCode
import Derived.Test.YteblkbgcnoepnaaRefGamText
namespace Go.Dam
open Go
set_option linter.unusedVariables false
/-- What a cost answers. -/
def CostR (k n r cc : Int) : Prop :=
  (¬ kinded k ∧ r = 0 ∧ cc = 3) ∨ (kinded k ∧ n < 1 ∧ r = 0 ∧ cc = 2) ∨ (kinded k ∧ 1 ≤ n ∧ 1048576 < n ∧ r = 0 ∧ cc = 2) ∨ (kinded k ∧ ∃ m : Nat, n = m ∧ 1 ≤ m ∧ m ≤ 1048576 ∧ r = ((gamK k m).length : Nat) ∧ cc = 0)
theorem CostR.ex (k n : Int) : ∃ r cc, CostR k n r cc := by
  by_cases hk : kinded k
  · by_cases h1 : n < 1
    · exact ⟨_, _, .inr (.inl ⟨hk, h1, rfl, rfl⟩)⟩
    · by_cases h2 : 1048576 < n
      · exact ⟨_, _, .inr (.inr (.inl ⟨hk, by omega, h2, rfl, rfl⟩))⟩
      · exact ⟨_, _, .inr (.inr (.inr ⟨hk, n.toNat, by omega, by omega, by omega, rfl, rfl⟩))⟩
  · exact ⟨_, _, .inl ⟨hk, rfl, rfl⟩⟩
theorem not_kinded {k : Int} (h : ¬ kinded k) : (k == 1) = false ∧ (k == 2) = false ∧ (k != 1) = true ∧ (k != 2) = true := by
  unfold kinded at h
  have h1 : k ≠ 1 := fun e => h (.inl e)
  have h2 : k ≠ 2 := fun e => h (.inr e)
  simp [h1, h2]
theorem kinded_i64 {k : Int} (h : kinded k) : k = 1 ∨ k = 2 := h
end Go.Dam
namespace Go.Proofs.Yteblkbgcnoepnaa
open Go Go.RowKit Go.Dam
set_option linter.unusedVariables false
set_option maxHeartbeats 400000 in
theorem kinded_yes (k : Int) (w : World) (h : kinded k) : Calls Try.prog 48 #[.int .i64 k] w fun e w' => e = .returned (.bool true) ∧ w = w' := by
  rcases h with rfl | rfl
  all_goals
    go_enter Try.func48, Try.ntmps48
    go_wp2_with fail
    go_ret
    exact ⟨rfl, rfl⟩
set_option maxHeartbeats 400000 in
theorem kinded_no (k : Int) (w : World) (h : ¬ kinded k) (hk : I64 k) : Calls Try.prog 48 #[.int .i64 k] w fun e w' => e = .returned (.bool false) ∧ w = w' := by
  obtain ⟨h1, h2, h3, h4⟩ := not_kinded h
  clear h
  unfold I64 at hk
  go_enter Try.func48, Try.ntmps48
  go_wp2_with fail
  go_ret
  exact ⟨ret_bool rfl, rfl⟩
set_option maxRecDepth 100000 in
set_option maxHeartbeats 1000000 in
theorem gamCost_any (k n r cc : Int) (w : World) (hk : I64 k) (hn : I64 n) (hR : CostR k n r cc) :
    Calls Try.prog 19 #[.int .i64 k, .int .i64 n] w fun e w' => e = .returned (.tuple #[.int .i64 r, .int .i64 cc]) ∧ Below w.heap.size w w' := by
  unfold I64 at hn
  rcases hR with ⟨h, rfl, rfl⟩ | ⟨h, h1, rfl, rfl⟩ | ⟨h, h1, h2, rfl, rfl⟩ | ⟨h, m, rfl, h1, h2, rfl, rfl⟩
  · have HK := Lib.hid fun W => kinded_no k W h hk
    clear h
    unfold I64 at hk
    go_enter Try.func19, Try.ntmps19
    go_wp2_with (go_at_call 48; refine (HK.out _).mono ?_; rintro e w' ⟨rfl, rfl⟩)
    go_ret2
    exact ⟨rfl, Below.refl _ _⟩
  · have HK := Lib.hid fun W => kinded_yes k W h
    clear h
    unfold I64 at hk
    go_enter Try.func19, Try.ntmps19
    go_wp2_with (go_at_call 48; refine (HK.out _).mono ?_; rintro e w' ⟨rfl, rfl⟩)
    go_ret2
    exact ⟨rfl, Below.refl _ _⟩
  · have HK := Lib.hid fun W => kinded_yes k W h
    clear h
    unfold I64 at hk
    have h1' : ¬ n < 1 := by omega
    go_enter Try.func19, Try.ntmps19
    go_wp2_with (go_at_call 48; refine (HK.out _).mono ?_; rintro e w' ⟨rfl, rfl⟩)
    go_ret2
    exact ⟨rfl, Below.refl _ _⟩
  · have HK := Lib.hid fun W => kinded_yes k W h
    have HC := Lib.hid (gamCode_all k m w hk h1 h2)
    have hlen : (gamK k m).length ≤ 100 := gamK_len h2
    clear h
    unfold I64 at hk
    have h1' : ¬ (m : Int) < 1 := by omega
    go_enter Try.func19, Try.ntmps19
    go_wp2_with (first
      | (go_at_call 48; refine (HK.out _).mono ?_; rintro e w' ⟨rfl, rfl⟩)
      | (go_at_call 49; refine (HC.out).mono ?_; rintro e w1 ⟨u, rfl, hown, hbel⟩; obtain ⟨A, c, rfl⟩ := own_shape hown; clear hown))
    go_ret2
    exact ⟨rfl, hbel⟩
set_option maxRecDepth 100000 in
set_option maxHeartbeats 1000000 in
theorem refGamCost_any (k n r cc : Int) (w : World) (hk : I64 k) (hn : I64 n) (hR : CostR k n r cc) :
    Calls Try.prog 20 #[.int .i64 k, .int .i64 n] w fun e w' => e = .returned (.tuple #[.int .i64 r, .int .i64 cc]) ∧ Drawn w w' := by
  unfold I64 at hn hk
  rcases hR with ⟨h, rfl, rfl⟩ | ⟨h, h1, rfl, rfl⟩ | ⟨h, h1, h2, rfl, rfl⟩ | ⟨h, m, rfl, h1, h2, rfl, rfl⟩
  · obtain ⟨e1, e2, e3, e4⟩ := not_kinded h
    clear h
    go_enter Try.func20, Try.ntmps20
    go_wp2_with fail
    go_ret2
    exact ⟨rfl, Drawn.refl _⟩
  · rcases h with rfl | rfl
    all_goals
      go_enter Try.func20, Try.ntmps20
      go_wp2_with fail
      go_ret2
      exact ⟨rfl, Drawn.refl _⟩
  · have h1' : ¬ n < 1 := by omega
    rcases h with rfl | rfl
    all_goals
      go_enter Try.func20, Try.ntmps20
      go_wp2_with fail
      go_ret2
      exact ⟨rfl, Drawn.refl _⟩
  · have HT := Lib.hid (gamText_any k m w h h1 h2)
    have hlen : (txtB (gamK k m)).size ≤ 100 := by rw [txtB_size]; exact gamK_len h2
    have hsz := txtB_size (gamK k m)
    have h1' : ¬ (m : Int) < 1 := by omega
    rcases h with rfl | rfl
    all_goals
      rw [← hsz]
      clear hsz
      go_enter Try.func20, Try.ntmps20
      go_wp2_with (go_at_call 50; refine (HT.out).mono ?_; rintro e w1 ⟨rfl, hd⟩)
      go_ret2
      exact ⟨rfl, hd⟩
theorem gamCosts_walk (v u : Value) (w : World) (h : ∃ x : Int, v = .int .i64 x ∧ I64 x) (h' : ∃ x : Int, u = .int .i64 x ∧ I64 x) :
    Calls Try.prog 5 #[v, u] w fun e w' => e = .returned (.bool true) ∧ Below w.heap.size w w' := by
  obtain ⟨k, rfl, hk⟩ := h
  obtain ⟨n, rfl, hn⟩ := h'
  obtain ⟨r, cc, hR⟩ := CostR.ex k n
  have H1 := Lib.hid (gamCost_any k n r cc w hk hn hR)
  have H2 := Lib.hid fun W => refGamCost_any k n r cc W hk hn hR
  clear hR
  unfold I64 at hk hn
  go_enter Try.func5, Try.ntmps5
  go_wp2_with (first
    | (go_at_call 19; refine (H1.out).mono ?_; rintro e w1 ⟨rfl, hb1⟩)
    | (go_at_call 20; refine (H2.out _).mono ?_; rintro e w2 ⟨rfl, hd2⟩))
  go_ret
  exact ⟨ret_bool (by simp), hb1.trans (hd2.below _)⟩
end Go.Proofs.Yteblkbgcnoepnaa
