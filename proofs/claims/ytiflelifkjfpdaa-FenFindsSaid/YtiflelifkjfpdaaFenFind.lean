/-
  Contracts of fen.Find and the reference's FenFind, and the walk of the law FenFinds: where sums come above a number. Conditions: the arguments can be read as data.
-/
import Derived.Test.YtiflelifkjfpdaaFenMay
namespace Go.Dam
/-- What Find answers. -/
def FenFindR (t : List Int) (x r c : Int) : Prop :=
  (fenMayB t = false ∧ r = 0 ∧ c = 4) ∨ (fenMayB t = true ∧ (∃ i, i < t.length ∧ fenP t (i + 1) < fenP t i) ∧ r = 0 ∧ c = 3) ∨
  (fenMayB t = true ∧ (∀ i, i < t.length → fenP t i ≤ fenP t (i + 1)) ∧ (∃ k : Nat, k < t.length ∧ x < fenP t (k + 1) ∧ (∀ j, j < k → fenP t (j + 1) ≤ x) ∧ r = k) ∧ c = 0) ∨
  (fenMayB t = true ∧ (∀ i, i < t.length → fenP t i ≤ fenP t (i + 1)) ∧ (∀ j, j < t.length → fenP t (j + 1) ≤ x) ∧ r = 0 ∧ c = 7)
theorem first_or (p : Nat → Prop) [DecidablePred p] : ∀ n, (∃ i, i < n ∧ p i ∧ ∀ j, j < i → ¬ p j) ∨ ∀ i, i < n → ¬ p i
  | 0 => .inr fun i hi => absurd hi (by omega)
  | n + 1 => by
    rcases first_or p n with ⟨i, hi, h⟩ | h
    · exact .inl ⟨i, by omega, h⟩
    · by_cases hp : p n
      · exact .inl ⟨n, by omega, hp, h⟩
      · refine .inr fun i hi => ?_
        rcases Nat.lt_or_ge i n with h1 | h1
        · exact h i h1
        · rw [show i = n from by omega]; exact hp
theorem FenFindR.ex (t : List Int) (x : Int) : ∃ r c, FenFindR t x r c := by
  cases h : fenMayB t with
  | false => exact ⟨_, _, .inl ⟨h, rfl, rfl⟩⟩
  | true =>
    rcases first_or (fun i => fenP t (i + 1) < fenP t i) t.length with ⟨i, hi, h1, _⟩ | h1
    · exact ⟨_, _, .inr (.inl ⟨h, ⟨i, hi, h1⟩, rfl, rfl⟩)⟩
    · have hm : ∀ i, i < t.length → fenP t i ≤ fenP t (i + 1) := fun i hi => by have := h1 i hi; omega
      rcases first_or (fun i => x < fenP t (i + 1)) t.length with ⟨k, hk, h2, h3⟩ | h2
      · exact ⟨_, _, .inr (.inr (.inl ⟨h, hm, ⟨k, hk, h2, fun j hj => by have := h3 j hj; omega, rfl⟩, rfl⟩))⟩
      · exact ⟨_, _, .inr (.inr (.inr ⟨h, hm, fun j hj => by have := h2 j hj; omega, rfl, rfl⟩))⟩
theorem mono_le {t : List Int} {n : Nat} (h : ∀ i, i < n → fenP t i ≤ fenP t (i + 1)) {a b : Nat} (hab : a ≤ b) (hb : b ≤ n) : fenP t a ≤ fenP t b := by
  induction b with
  | zero => rw [show a = 0 from by omega]; exact Int.le_refl _
  | succ b ih =>
    rcases Nat.lt_or_ge a (b + 1) with h1 | h1
    · exact Int.le_trans (ih (by omega) (by omega)) (h b (by omega))
    · rw [show a = b + 1 from by omega]; exact Int.le_refl _
/-- The step of round n, from the last on. -/
def stepOf : Nat → Nat
  | 0 => 0
  | n + 1 => 2 ^ n
theorem stepOf_half (n : Nat) (h : n ≤ 10) : stepOf n / 2 = stepOf (n - 1) := by
  match n, h with
  | 0, _ => rfl
  | 1, _ => rfl
  | n + 2, _ => show 2 ^ (n + 1) / 2 = 2 ^ n; rw [Nat.pow_succ]; omega
theorem stepOf_0 : stepOf 0 = 0 := rfl
theorem stepOf_succ (n : Nat) : stepOf (n + 1) = 2 ^ n := rfl
attribute [irreducible] stepOf
end Go.Dam
namespace Go.Proofs.Ytiflelifkjfpdaa
open Go Go.RowKit Go.Dam
set_option linter.unusedVariables false
set_option maxHeartbeats 1000000 in
theorem fenFind_any (v : Value) (l : List Int) (x r cc : Int) (w : World) (B : Nat) (h : IsInts .i64 w B v l) (hx64 : I64 x) (hR : FenFindR l x r cc) :
    Calls Try.prog 28 #[v, .int .i64 x] w fun e w' => e = .returned (.tuple #[.int .i64 r, .int .i64 cc]) ∧ w = w' := by
  have HM := fun b (hb : fenMayB l = b) => fenMay_any v l b w B h hb
  have HS := fun (hb : fenMayB l = true) (k : Nat) (hk : k ≤ l.length) => fensum_any v l k w B h hb hk
  obtain ⟨A, c, rfl, hc, hm, hn, hr, hw⟩ := h
  clear hw
  cases hb : fenMayB l with
  | false =>
    obtain ⟨rfl, rfl⟩ : r = 0 ∧ cc = 4 := by
      rcases hR with ⟨_, a⟩ | ⟨a, _⟩ | ⟨a, _⟩ | ⟨a, _⟩
      · exact a
      all_goals (rw [hb] at a; cases a)
    have HM := Lib.hid (HM _ hb)
    clear hR HS hb hr
    go_enter Try.func28, Try.ntmps28
    go_wp2_with (go_at_call 52; refine (HM.out).mono ?_; rintro e w1 ⟨rfl, rfl⟩)
    go_ret2
    exact ⟨rfl, rfl⟩
  | true =>
    have HM := Lib.hid (HM _ hb)
    have HS := Lib.hid (HS hb)
    obtain ⟨hl, _, hok⟩ := fenMay_yes hb
    have HBD : Hid (∀ j, j ≤ 301 → -400000000000000 ≤ fenP l j ∧ fenP l j ≤ 400000000000000) := Lib.hid fun j hj => fenP_300 hok hj
    have HR := Lib.hid hR
    have HBT := Lib.hid hb
    unfold I64 at hx64
    clear hR hb hok
    go_enter Try.func28, Try.ntmps28
    go_wp2_with (go_at_call 52; refine (HM.out).mono ?_; rintro e w1 ⟨rfl, rfl⟩)
    go_loop [14] (fun iv => ∃ i : Nat, i ≤ l.length ∧ iv = .int .i64 i ∧ (∀ j, j < i → fenP l j ≤ fenP l (j + 1))) (fun iv => l.length - (intOf iv).toNat)
    case atStart => exact ⟨0, by omega, rfl, fun j hj => absurd hj (by omega)⟩
    case round =>
      obtain ⟨i, hi, rfl, hmono⟩ := hrel
      by_cases hlt : i < l.length
      · have H1 := HS.out (i + 1) (by omega)
        have H0 := HS.out i (by omega)
        rw [show (((i + 1 : Nat)) : Int) = (i : Int) + 1 from by omega] at H1
        by_cases hz : fenP l (i + 1) < fenP l i
        · obtain ⟨rfl, rfl⟩ : r = 0 ∧ cc = 3 := by
            rcases HR.out with ⟨a, _⟩ | ⟨_, _, a⟩ | ⟨_, a, _⟩ | ⟨_, a, _⟩
            · rw [HBT.out] at a; cases a
            · exact a
            · have := a i hlt; omega
            · have := a i hlt; omega
          generalize fenP l (i + 1) = p1 at *
          generalize fenP l i = p0 at *
          have H1 := Lib.hid H1
          have H0 := Lib.hid H0
          clear hmono HR
          go_wp2_with (first
            | (go_at_call 54; (with_reducible refine (H1.out).mono ?_); rintro e w1 ⟨rfl, rfl⟩)
            | (go_at_call 54; (with_reducible refine (H0.out).mono ?_); rintro e w1 ⟨rfl, rfl⟩))
          go_ret2
          exact ⟨rfl, rfl⟩
        · have HN : Hid (∀ j, j < i + 1 → fenP l j ≤ fenP l (j + 1)) := Lib.hid fun j hj => by
            rcases Nat.lt_or_ge j i with h1 | h1
            · exact hmono j h1
            · rw [show j = i from by omega]; omega
          generalize fenP l (i + 1) = p1 at *
          generalize fenP l i = p0 at *
          have H1 := Lib.hid H1
          have H0 := Lib.hid H0
          clear hmono
          go_wp2_with (first
            | (go_at_call 54; (with_reducible refine (H1.out).mono ?_); rintro e w1 ⟨rfl, rfl⟩)
            | (go_at_call 54; (with_reducible refine (H0.out).mono ?_); rintro e w1 ⟨rfl, rfl⟩))
          go_round
          case rel => exact ⟨i + 1, by omega, by go_num, HN.out⟩
          case measure => simp [intOf]; omega
      · obtain rfl : i = l.length := by omega
        have HMono := Lib.hid hmono
        clear hmono
        go_wp2_with fail
        go_loop [1, 7, 8] (fun xv av sv => ∃ n a : Nat, ∃ y : Int, n ≤ 10 ∧ a ≤ l.length ∧ a % 2 ^ n = 0 ∧ y = x - fenP l a ∧ (a = 0 ∨ fenP l a ≤ x) ∧ (∀ j, a + 2 ^ n ≤ j → j ≤ l.length → x < fenP l j) ∧ xv = .int .i64 y ∧ av = .int .i64 a ∧ sv = .int .i64 (stepOf n)) (fun _ _ sv => (intOf sv).toNat)
        case atStart => exact ⟨10, 0, x, by omega, by omega, rfl, by rw [fenP_0]; omega, .inl rfl, fun j h1 h2 => by omega, rfl, rfl, by rw [stepOf_succ]; rfl⟩
        case round =>
          obtain ⟨n, a, y, hn10, ha, hdiv, hy, hax, hup, rfl, rfl, rfl⟩ := hrel
          cases n with
          | zero =>
            rw [stepOf_0]
            have hup1 : ∀ j, a < j → j ≤ l.length → x < fenP l j := fun j h1 h2 => hup j (by omega) h2
            have hbelow : ∀ j, j < a → fenP l (j + 1) ≤ x := fun j hj => by
              have := mono_le HMono.out (show j + 1 ≤ a by omega) ha
              rcases hax with h | h <;> omega
            by_cases hal : a = l.length
            · obtain ⟨rfl, rfl⟩ : r = 0 ∧ cc = 7 := by
                rcases HR.out with ⟨b, _⟩ | ⟨_, ⟨i, hi, b⟩, _⟩ | ⟨_, _, ⟨k, hk, b, _⟩, _⟩ | ⟨_, _, _, b⟩
                · rw [HBT.out] at b; cases b
                · have := HMono.out i hi; omega
                · have := hbelow k (by omega); omega
                · exact b
              subst hal
              clear hup hup1 hbelow hax hy hdiv HR
              go_wp2_with fail
              go_ret2
              exact ⟨rfl, rfl⟩
            · obtain ⟨hra, rfl⟩ : r = (a : Int) ∧ cc = 0 := by
                rcases HR.out with ⟨b, _⟩ | ⟨_, ⟨i, hi, b⟩, _⟩ | ⟨_, _, ⟨k, hk, b, d, rfl⟩, e⟩ | ⟨_, _, b, _⟩
                · rw [HBT.out] at b; cases b
                · have := HMono.out i hi; omega
                · refine ⟨?_, e⟩
                  rcases Nat.lt_trichotomy k a with h1 | h1 | h1
                  · have := hbelow k h1; omega
                  · rw [h1]
                  · have := d a h1; have := hup1 (a + 1) (by omega) (by omega); omega
                · have := b a (by omega); have := hup1 (a + 1) (by omega) (by omega); omega
              subst hra
              have hne : a < l.length := by omega
              have t1 : ((a : Int) == (l.length : Int)) = false := by rw [beq_eq_false_iff_ne]; omega
              clear hup hup1 hbelow hax hy hdiv HR hal
              go_wp2_with fail
              go_ret2
              exact ⟨rfl, rfl⟩
          | succ m =>
            rw [stepOf_succ]
            rw [Nat.pow_succ] at hdiv hup
            obtain ⟨q, hq⟩ : ∃ q, q = 2 ^ m := ⟨_, rfl⟩
            have hq1 : 0 < q := by rw [hq]; exact Nat.two_pow_pos m
            have hq2 : q ≤ 512 := by rw [hq]; exact Nat.pow_le_pow_right (by omega : 0 < 2) (by omega : m ≤ 9)
            have hhalf := stepOf_half (m + 1) hn10
            rw [stepOf_succ, Nat.add_sub_cancel] at hhalf
            rw [← hq] at hhalf hdiv hup ⊢
            have hda : a % q = 0 := by
              have := Nat.mod_mod_of_dvd a (Nat.dvd_mul_right q 2)
              rw [hdiv, Nat.zero_mod] at this; exact this.symm
            have HH : Hid ((q : Int) / 2 = (stepOf m : Nat)) := Lib.hid (by rw [← hhalf]; omega)
            have hba := HBD.out a (by omega)
            have hmm : stepOf m < q := by omega
            by_cases hin : a + q ≤ l.length
            · obtain ⟨bk, off, rfl, hbk, hcells⟩ := ints_cells hr (by omega)
              have k0 := hcells (a + q - 1) (by omega)
              have hP := fenP_succ l (a + q - 1)
              rw [show a + q - 1 + 1 = a + q from by omega] at hP
              have hlo : a < 300 → fenLo (a + q - 1) = a := fun h => by rw [hq]; exact half_lo h (by omega) (by rw [← hq, Nat.mul_comm]; exact hdiv)
              rw [hlo (by omega)] at hP
              have hbq := HBD.out (a + q) (by omega)
              have hmo := mono_le HMono.out (show a ≤ a + q by omega) hin
              have ht1 : (l.getD (a + q - 1) 0) = fenP l (a + q) - fenP l a := by omega
              rw [ht1] at k0
              by_cases hle : fenP l (a + q) ≤ x
              · have HN : Hid (x - fenP l a - (fenP l (a + q) - fenP l a) = x - fenP l (a + q)) := Lib.hid (by omega)
                have HU : Hid (∀ j, a + q + q ≤ j → j ≤ l.length → x < fenP l j) := Lib.hid fun j h1 h2 => hup j (by omega) h2
                have HD : Hid ((a + q) % q = 0) := Lib.hid (by rw [Nat.add_mod_right]; exact hda)
                have HL := Lib.hid hle
                obtain ⟨d, hd⟩ : ∃ d, d = fenP l (a + q) - fenP l a := ⟨_, rfl⟩
                rw [← hd] at k0 HN
                have g1 : 0 ≤ d ∧ d ≤ 1000000000000000 := by omega
                have g2 : d ≤ y := by omega
                have g3 : y ≤ x ∨ a = 0 ∧ y = x := by
                  rcases hax with h | h
                  · right; subst h; rw [fenP_0] at hy; omega
                  · left; have := mono_le HMono.out (Nat.zero_le a) ha; rw [fenP_0] at this; omega
                have g4 : -9223372036854775808 ≤ y ∧ y ≤ 9223372036854775807 := by omega
                have g5 : 0 ≤ y := by omega
                have HY := Lib.hid hy
                have HQ := Lib.hid hq
                clear hcells hP hlo hbq hmo ht1 hup hhalf hdiv hda hba hle hax hd hy hq g3
                go_wp2_with fail
                go_round
                case rel => exact ⟨m, a + q, _, by omega, by omega, by rw [← HQ.out]; exact HD.out, by rw [HY.out]; exact HN.out, .inr HL.out, by rw [← HQ.out]; exact HU.out, rfl, by go_num, vint HH.out⟩
                case measure => simp [intOf]; rw [HH.out]; omega
              · have HU : Hid (∀ j, a + q ≤ j → j ≤ l.length → x < fenP l j) := Lib.hid fun j h1 h2 => by
                  have := mono_le HMono.out h1 h2; omega
                have HD := Lib.hid hda
                have HA := Lib.hid hax
                obtain ⟨d, hd⟩ : ∃ d, d = fenP l (a + q) - fenP l a := ⟨_, rfl⟩
                rw [← hd] at k0
                have g2 : y < d := by omega
                have HY := Lib.hid hy
                have HQ := Lib.hid hq
                clear hcells hP hlo hbq hmo ht1 hup hhalf hdiv hda hba hle hax hd hy hq
                go_wp2_with fail
                go_round
                case rel => exact ⟨m, a, _, by omega, ha, by rw [← HQ.out]; exact HD.out, HY.out, HA.out, by rw [← HQ.out]; exact HU.out, rfl, rfl, vint HH.out⟩
                case measure => simp [intOf]; rw [HH.out]; omega
            · have HU : Hid (∀ j, a + q ≤ j → j ≤ l.length → x < fenP l j) := Lib.hid fun j h1 h2 => by omega
              have hin' : l.length < a + q := by omega
              have t1 : decide ((a : Int) + (q : Int) ≤ (l.length : Int)) = false := by simp; omega
              have HD := Lib.hid hda
              have HA := Lib.hid hax
              have HY := Lib.hid hy
              have HQ := Lib.hid hq
              clear hup hhalf hdiv hda hba hax hy hq hin
              go_wp2_with fail
              go_round
              case rel => exact ⟨m, a, _, by omega, ha, by rw [← HQ.out]; exact HD.out, HY.out, HA.out, by rw [← HQ.out]; exact HU.out, rfl, rfl, vint HH.out⟩
              case measure => simp [intOf]; rw [HH.out]; omega
set_option maxHeartbeats 1000000 in
theorem refFenFind_any (v : Value) (l : List Int) (x r cc : Int) (w : World) (B : Nat) (hB : B ≤ w.heap.size) (h : IsInts .i64 w B v l) (hx64 : I64 x) (hR : FenFindR l x r cc) :
    Calls Try.prog 29 #[v, .int .i64 x] w fun e w' => e = .returned (.tuple #[.int .i64 r, .int .i64 cc]) ∧ Below w.heap.size w w' := by
  have HM := fun b (hb : fenMayB l = b) => refFenMay_any v l b w B h hb
  have HN := fun (hb : fenMayB l = true) => fenNumbers_any v l w B hB h hb
  obtain ⟨A, c, rfl, hc, hm, hn, hr, hw⟩ := h
  clear hw
  cases hb : fenMayB l with
  | false =>
    obtain ⟨rfl, rfl⟩ : r = 0 ∧ cc = 4 := by
      rcases hR with ⟨_, a⟩ | ⟨a, _⟩ | ⟨a, _⟩ | ⟨a, _⟩
      · exact a
      all_goals (rw [hb] at a; cases a)
    have HM := Lib.hid (HM _ hb)
    clear hR HN hb hr
    go_enter Try.func29, Try.ntmps29
    go_wp2_with (go_at_call 53; refine (HM.out).mono ?_; rintro e w1 ⟨rfl, rfl⟩)
    go_ret2
    exact ⟨rfl, Below.refl _ _⟩
  | true =>
    have HM := Lib.hid (HM _ hb)
    have HN := Lib.hid (HN hb)
    obtain ⟨hl, _, hok⟩ := fenMay_yes hb
    have HBD : Hid (∀ j, j ≤ 301 → -400000000000000 ≤ fenP l j ∧ fenP l j ≤ 400000000000000) := Lib.hid fun j hj => fenP_300 hok hj
    have HR := Lib.hid hR
    have HBT := Lib.hid hb
    unfold I64 at hx64
    clear hR hb hok hr
    go_enter Try.func29, Try.ntmps29
    go_wp2_with (first
      | (go_at_call 53; refine (HM.out).mono ?_; rintro e w1 ⟨rfl, rfl⟩)
      | (go_at_call 55; refine (HN.out).mono ?_; rintro e w1 ⟨u, rfl, hi2, hb1⟩; obtain ⟨A2, c2, rfl, hc2, hm2, hr2⟩ := hi2.open_ (fenNums_length l l.length)))
    have HR2 := Lib.hid hr2
    have HB1 := Lib.hid hb1
    clear hr2 hi2 hb1
    go_loop [19] (fun iv => ∃ i : Nat, i ≤ l.length ∧ iv = .int .i64 i ∧ (∀ j, j < i → fenP l j ≤ fenP l (j + 1))) (fun iv => l.length - (intOf iv).toNat)
    case atStart => exact ⟨0, by omega, rfl, fun j hj => absurd hj (by omega)⟩
    case round =>
      obtain ⟨i, hi, rfl, hmono⟩ := hrel
      by_cases hlt : i < l.length
      · obtain ⟨bk, off, rfl, hbk, hcells⟩ := ints_cells HR2.out (by rw [fenNums_length]; omega)
        have c0 := hcells i (by rw [fenNums_length]; omega)
        rw [fenNums_at l hlt] at c0
        by_cases hz : fenP l (i + 1) < fenP l i
        · obtain ⟨rfl, rfl⟩ : r = 0 ∧ cc = 3 := by
            rcases HR.out with ⟨a, _⟩ | ⟨_, _, a⟩ | ⟨_, a, _⟩ | ⟨_, a, _⟩
            · rw [HBT.out] at a; cases a
            · exact a
            · have := a i hlt; omega
            · have := a i hlt; omega
          obtain ⟨y, hy⟩ : ∃ y, y = fenP l (i + 1) - fenP l i := ⟨_, rfl⟩
          have hy0 : y < 0 := by omega
          rw [← hy] at c0
          clear hmono HR hcells hy hz
          go_wp2_with fail
          go_ret2
          exact ⟨rfl, HB1.out⟩
        · have HN : Hid (∀ j, j < i + 1 → fenP l j ≤ fenP l (j + 1)) := Lib.hid fun j hj => by
            rcases Nat.lt_or_ge j i with h1 | h1
            · exact hmono j h1
            · rw [show j = i from by omega]; omega
          obtain ⟨y, hy⟩ : ∃ y, y = fenP l (i + 1) - fenP l i := ⟨_, rfl⟩
          have hy0 : 0 ≤ y := by omega
          rw [← hy] at c0
          clear hmono hcells hy hz
          go_wp2_with fail
          go_round
          case rel => exact ⟨i + 1, by omega, by go_num, HN.out⟩
          case measure => simp [intOf]; omega
      · obtain rfl : i = l.length := by omega
        have HMono := Lib.hid hmono
        clear hmono
        go_wp2_with fail
        go_loop [9, 28] (fun sv iv => ∃ i : Nat, i ≤ l.length ∧ iv = .int .i64 i ∧ sv = .int .i64 (fenP l i) ∧ (∀ j, j < i → fenP l (j + 1) ≤ x)) (fun _ iv => l.length - (intOf iv).toNat)
        case atStart => exact ⟨0, by omega, rfl, by rw [fenP_0], fun j hj => absurd hj (by omega)⟩
        case round =>
          obtain ⟨i, hi, rfl, rfl, hle⟩ := hrel
          by_cases hlt : i < l.length
          · obtain ⟨bk, off, rfl, hbk, hcells⟩ := ints_cells HR2.out (by rw [fenNums_length]; omega)
            have c0 := hcells i (by rw [fenNums_length]; omega)
            rw [fenNums_at l hlt] at c0
            have b1 := HBD.out i (by omega)
            have b2 := HBD.out (i + 1) (by omega)
            obtain ⟨y, hy⟩ : ∃ y, y = fenP l (i + 1) - fenP l i := ⟨_, rfl⟩
            rw [← hy] at c0
            have HX : Hid (fenP l i + y = fenP l (i + 1)) := Lib.hid (by omega)
            have hyb : -800000000000000 ≤ y ∧ y ≤ 800000000000000 := by omega
            by_cases hgt : x < fenP l (i + 1)
            · obtain ⟨hri, rfl⟩ : r = (i : Int) ∧ cc = 0 := by
                rcases HR.out with ⟨b, _⟩ | ⟨_, ⟨i, hi, b⟩, _⟩ | ⟨_, _, ⟨k, hk, b, d, rfl⟩, e⟩ | ⟨_, _, b, _⟩
                · rw [HBT.out] at b; cases b
                · have := HMono.out i hi; omega
                · refine ⟨?_, e⟩
                  rcases Nat.lt_trichotomy k i with h1 | h1 | h1
                  · have := hle k h1; omega
                  · rw [h1]
                  · have := d i h1; omega
                · have := b i hlt; omega
              subst hri
              have hgt' : x < fenP l i + y := by omega
              clear hcells hy b2 hgt hle HR
              go_wp2_with fail
              go_ret2
              exact ⟨rfl, HB1.out⟩
            · have HL : Hid (∀ j, j < i + 1 → fenP l (j + 1) ≤ x) := Lib.hid fun j hj => by
                rcases Nat.lt_or_ge j i with h1 | h1
                · exact hle j h1
                · rw [show j = i from by omega]; omega
              have hgt' : ¬ x < fenP l i + y := by omega
              clear hcells hy b2 hgt hle
              go_wp2_with fail
              go_round
              case rel => exact ⟨i + 1, by omega, by go_num, vint HX.out, HL.out⟩
              case measure => simp [intOf]; omega
          · obtain rfl : i = l.length := by omega
            obtain ⟨rfl, rfl⟩ : r = 0 ∧ cc = 7 := by
              rcases HR.out with ⟨b, _⟩ | ⟨_, ⟨i, hi, b⟩, _⟩ | ⟨_, _, ⟨k, hk, b, _⟩, _⟩ | ⟨_, _, _, b⟩
              · rw [HBT.out] at b; cases b
              · have := HMono.out i hi; omega
              · have := hle k hk; omega
              · exact b
            clear hle HR
            go_wp2
            go_ret2
            exact ⟨rfl, HB1.out⟩
set_option maxHeartbeats 400000 in
theorem fenFinds_walk (v u : Value) (w : World) (h : ∃ l, IsInts .i64 w w.heap.size v l) (h' : ∃ x : Int, u = .int .i64 x ∧ I64 x) :
    Calls Try.prog 9 #[v, u] w fun e w' => e = .returned (.bool true) ∧ Below w.heap.size w w' := by
  obtain ⟨l, h⟩ := h
  obtain ⟨x, rfl, hx⟩ := h'
  obtain ⟨r, cc, hR⟩ := FenFindR.ex l x
  have H1 := Lib.hid (fenFind_any v l x r cc w _ h hx hR)
  have H2 := Lib.hid (refFenFind_any v l x r cc w _ (Nat.le_refl _) h hx hR)
  obtain ⟨A, c, rfl, hc, hm, hn, hr, hw⟩ := h
  clear hr hw hR
  go_enter Try.func9, Try.ntmps9
  go_wp2_with (first
    | (go_at_call 28; refine (H1.out).mono ?_; rintro e w1 ⟨rfl, rfl⟩)
    | (go_at_call 29; refine (H2.out).mono ?_; rintro e w2 ⟨rfl, hb2⟩))
  all_goals (go_ret; exact ⟨ret_bool (by simp), hb2⟩)
end Go.Proofs.Ytiflelifkjfpdaa
