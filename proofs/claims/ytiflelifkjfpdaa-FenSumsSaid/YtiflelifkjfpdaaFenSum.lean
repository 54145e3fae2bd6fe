/-
  Contracts of fen.Sum and the reference's FenSum, and the walk of the law FenSums. Conditions: the arguments can be read as data.
-/
import Derived.Test.YtiflelifkjfpdaaFenMay
namespace Go.Dam
/-- What Sum answers. -/
def FenSumR (t : List Int) (i r c : Int) : Prop :=
  (fenMayB t = false ∧ r = 0 ∧ c = 4) ∨ (fenMayB t = true ∧ (i < 0 ∨ (t.length : Int) < i) ∧ r = 0 ∧ c = 2) ∨ (fenMayB t = true ∧ ∃ k : Nat, i = k ∧ k ≤ t.length ∧ r = fenP t k ∧ c = 0)
theorem FenSumR.ex (t : List Int) (i : Int) : ∃ r c, FenSumR t i r c := by
  cases h : fenMayB t with
  | false => exact ⟨_, _, .inl ⟨h, rfl, rfl⟩⟩
  | true =>
    by_cases h2 : i < 0 ∨ (t.length : Int) < i
    · exact ⟨_, _, .inr (.inl ⟨h, h2, rfl, rfl⟩)⟩
    · exact ⟨_, _, .inr (.inr ⟨h, i.toNat, by omega, by omega, rfl, rfl⟩)⟩
end Go.Dam
namespace Go.Proofs.Ytiflelifkjfpdaa
open Go Go.RowKit Go.Dam
set_option linter.unusedVariables false
set_option maxHeartbeats 400000 in
theorem fenSum_any (v : Value) (l : List Int) (i r cc : Int) (w : World) (B : Nat) (h : IsInts .i64 w B v l) (hR : FenSumR l i r cc) :
    Calls Try.prog 26 #[v, .int .i64 i] w fun e w' => e = .returned (.tuple #[.int .i64 r, .int .i64 cc]) ∧ w = w' := by
  have HM := fun b (hb : fenMayB l = b) W (hW : IsInts .i64 W B v l) => fenMay_any v l b W B hW hb
  have HS := fun (hb : fenMayB l = true) (k : Nat) (hk : k ≤ l.length) => fensum_any v l k w B h hb hk
  rcases hR with ⟨h1, rfl, rfl⟩ | ⟨h1, h2, rfl, rfl⟩ | ⟨h1, k, rfl, hk, rfl, rfl⟩
  · have HM := Lib.hid (HM _ h1 w h)
    obtain ⟨A, c, rfl, hc, hm, hn, hr, hw⟩ := h
    clear h1 HS hr hw
    go_enter Try.func26, Try.ntmps26
    go_wp2_with (go_at_call 52; refine (HM.out).mono ?_; rintro e w1 ⟨rfl, rfl⟩)
    go_ret2
    exact ⟨rfl, rfl⟩
  · have HM := Lib.hid (HM _ h1 w h)
    obtain ⟨A, c, rfl, hc, hm, hn, hr, hw⟩ := h
    clear h1 HS hr hw
    by_cases h3 : i < 0
    · clear h2
      have t1 : decide (i < 0) = true := by simpa using h3
      go_enter Try.func26, Try.ntmps26
      go_wp2_with (go_at_call 52; refine (HM.out).mono ?_; rintro e w1 ⟨rfl, rfl⟩)
      go_ret2
      exact ⟨rfl, rfl⟩
    · have h4 : (l.length : Int) < i := by omega
      have t1 : decide (i < 0) = false := by simpa using h3
      clear h2
      go_enter Try.func26, Try.ntmps26
      go_wp2_with (go_at_call 52; refine (HM.out).mono ?_; rintro e w1 ⟨rfl, rfl⟩)
      go_ret2
      exact ⟨rfl, rfl⟩
  · have HM := Lib.hid (HM _ h1 w h)
    have HS := Lib.hid (HS h1 k hk)
    obtain ⟨A, c, rfl, hc, hm, hn, hr, hw⟩ := h
    clear h1 hr hw
    have t1 : decide ((k : Int) < 0) = false := by simp
    have t2 : decide (l.length < k) = false := by simp; omega
    go_enter Try.func26, Try.ntmps26
    go_wp2_with (first
      | (go_at_call 52; refine (HM.out).mono ?_; rintro e w1 ⟨rfl, rfl⟩)
      | (go_at_call 54; refine (HS.out).mono ?_; rintro e w1 ⟨rfl, rfl⟩))
    go_ret2
    exact ⟨rfl, rfl⟩
set_option maxHeartbeats 400000 in
theorem refFenSum_any (v : Value) (l : List Int) (i r cc : Int) (w : World) (B : Nat) (hB : B ≤ w.heap.size) (h : IsInts .i64 w B v l) (hR : FenSumR l i r cc) :
    Calls Try.prog 27 #[v, .int .i64 i] w fun e w' => e = .returned (.tuple #[.int .i64 r, .int .i64 cc]) ∧ Below w.heap.size w w' := by
  have HM := fun b (hb : fenMayB l = b) => refFenMay_any v l b w B h hb
  have HN := fun (hb : fenMayB l = true) => fenNumbers_any v l w B hB h hb
  rcases hR with ⟨h1, rfl, rfl⟩ | ⟨h1, h2, rfl, rfl⟩ | ⟨h1, k, rfl, hk, rfl, rfl⟩
  · have HM := Lib.hid (HM _ h1)
    obtain ⟨A, c, rfl, hc, hm, hn, hr, hw⟩ := h
    clear h1 HN hr hw
    go_enter Try.func27, Try.ntmps27
    go_wp2_with (go_at_call 53; refine (HM.out).mono ?_; rintro e w1 ⟨rfl, rfl⟩)
    go_ret2
    exact ⟨rfl, Below.refl _ _⟩
  · have HM := Lib.hid (HM _ h1)
    obtain ⟨A, c, rfl, hc, hm, hn, hr, hw⟩ := h
    clear h1 HN hr hw
    by_cases h3 : i < 0
    · clear h2
      have t1 : decide (i < 0) = true := by simpa using h3
      go_enter Try.func27, Try.ntmps27
      go_wp2_with (go_at_call 53; refine (HM.out).mono ?_; rintro e w1 ⟨rfl, rfl⟩)
      go_ret2
      exact ⟨rfl, Below.refl _ _⟩
    · have h4 : (l.length : Int) < i := by omega
      have t1 : decide (i < 0) = false := by simpa using h3
      clear h2
      go_enter Try.func27, Try.ntmps27
      go_wp2_with (go_at_call 53; refine (HM.out).mono ?_; rintro e w1 ⟨rfl, rfl⟩)
      go_ret2
      exact ⟨rfl, Below.refl _ _⟩
  · have HM := Lib.hid (HM _ h1)
    have HN := Lib.hid (HN h1)
    obtain ⟨hl, _, hok⟩ := fenMay_yes h1
    have HBD : Hid (∀ j, j ≤ 301 → -400000000000000 ≤ fenP l j ∧ fenP l j ≤ 400000000000000) := Lib.hid fun j hj => fenP_300 hok hj
    obtain ⟨A, c, rfl, hc, hm, hn, hr, hw⟩ := h
    clear h1 hr hw hok
    have t1 : decide ((k : Int) < 0) = false := by simp
    have t2 : decide (l.length < k) = false := by simp; omega
    go_enter Try.func27, Try.ntmps27
    go_wp2_with (first
      | (go_at_call 53; refine (HM.out).mono ?_; rintro e w1 ⟨rfl, rfl⟩)
      | (go_at_call 55; refine (HN.out).mono ?_; rintro e w1 ⟨u, rfl, ⟨A2, c2, rfl, hc2, hm2, hn2, hr2, hw2⟩, hb1⟩; rw [fenNums_length] at hc2 hn2))
    have HR2 := Lib.hid hr2
    have HB1 := Lib.hid hb1
    clear hr2 hw2 hb1
    go_loop [6, 25] (fun nv jv => ∃ j : Nat, j ≤ k ∧ jv = .int .i64 j ∧ nv = .int .i64 (fenP l j)) (fun _ jv => k - (intOf jv).toNat)
    case atStart => exact ⟨0, by omega, rfl, by rw [fenP_0]⟩
    case round =>
      obtain ⟨j, hj, rfl, rfl⟩ := hrel
      by_cases hjk : j < k
      · obtain ⟨bk, off, rfl, hbk, hcells⟩ := ints_cells HR2.out (by rw [fenNums_length]; omega)
        have c0 := hcells j (by rw [fenNums_length]; omega)
        rw [fenNums_at l (show j < l.length by omega)] at c0
        have b1 := HBD.out j (by omega)
        have b2 := HBD.out (j + 1) (by omega)
        have HX : Hid (fenP l j + (fenP l (j + 1) - fenP l j) = fenP l (j + 1)) := Lib.hid (by omega)
        obtain ⟨y, hy⟩ : ∃ y, y = fenP l (j + 1) - fenP l j := ⟨_, rfl⟩
        have hyb : -800000000000000 ≤ y ∧ y ≤ 800000000000000 := by omega
        rw [← hy] at c0 HX
        clear hcells hy b2
        go_wp2_with fail
        go_round
        case rel => exact ⟨j + 1, by omega, by go_num, vint HX.out⟩
        case measure => simp [intOf]; omega
      · obtain rfl : j = k := by omega
        go_wp2
        go_ret2
        exact ⟨rfl, HB1.out⟩
set_option maxHeartbeats 400000 in
theorem fenSums_walk (v u : Value) (w : World) (h : ∃ l, IsInts .i64 w w.heap.size v l) (h' : ∃ x : Int, u = .int .i64 x ∧ I64 x) :
    Calls Try.prog 8 #[v, u] w fun e w' => e = .returned (.bool true) ∧ Below w.heap.size w w' := by
  obtain ⟨l, h⟩ := h
  obtain ⟨x, rfl, hx⟩ := h'
  obtain ⟨r, cc, hR⟩ := FenSumR.ex l x
  have H1 := Lib.hid (fenSum_any v l x r cc w _ h hR)
  have H2 := Lib.hid (refFenSum_any v l x r cc w _ (Nat.le_refl _) h hR)
  obtain ⟨A, c, rfl, hc, hm, hn, hr, hw⟩ := h
  clear hr hw hR
  go_enter Try.func8, Try.ntmps8
  go_wp2_with (first
    | (go_at_call 26; refine (H1.out).mono ?_; rintro e w1 ⟨rfl, rfl⟩)
    | (go_at_call 27; refine (H2.out).mono ?_; rintro e w2 ⟨rfl, hb2⟩))
  all_goals (go_ret; exact ⟨ret_bool (by simp), hb2⟩)
end Go.Proofs.Ytiflelifkjfpdaa
