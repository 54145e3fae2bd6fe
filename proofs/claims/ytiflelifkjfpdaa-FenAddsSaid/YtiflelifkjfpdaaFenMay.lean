/-
  Contracts of fen.may and the reference's fenMay: may a list be a table? And of fen.sum, the reference's fenFrom and fenNumbers. Conditions: the list can be read as data.
-/
import Derived.Test.YtiflelifkjfpdaaFenMayAny
import Derived.Test.YtiflelifkjfpdaaFenPlain
import Derived.Test.YtiflelifkjfpdaaPush
namespace Go.Dam
open Go Go.RowKit
/-- May the list be a table? -/
def fenMayB (l : List Int) : Bool := decide (l.length ≤ 300) && !(anyN (fun i => !fenOk (l.getD i 0)) l.length)
theorem fenMay_yes {l : List Int} (h : fenMayB l = true) : l.length ≤ 300 ∧ (anyN (fun i => !fenOk (l.getD i 0)) l.length = false) ∧ ∀ i, -1099511627776 ≤ l.getD i 0 ∧ l.getD i 0 ≤ 1099511627776 := by
  unfold fenMayB at h
  rw [Bool.and_eq_true, decide_eq_true_eq, Bool.not_eq_true'] at h
  refine ⟨h.1, h.2, fun i => ?_⟩
  rcases Nat.lt_or_ge i l.length with h1 | h1
  · have := anyN_false h.2 i h1
    simp only [Bool.not_eq_false'] at this
    exact fenOk_yes this
  · simp [h1]
theorem fenMay_no {l : List Int} (h : fenMayB l = false) : 300 < l.length ∨ (l.length ≤ 300 ∧ anyN (fun i => !fenOk (l.getD i 0)) l.length = true) := by
  unfold fenMayB at h
  rcases Nat.lt_or_ge 300 l.length with h1 | h1
  · exact .inl h1
  · refine .inr ⟨h1, ?_⟩
    rw [Bool.and_eq_false_iff, decide_eq_false_iff_not, Bool.not_eq_false'] at h
    rcases h with h | h
    · exact absurd h1 h
    · exact h
theorem fenMay_of {l : List Int} (h1 : l.length ≤ 300) (h2 : ∀ i, i < l.length → fenOk (l.getD i 0) = true) : fenMayB l = true := by
  unfold fenMayB
  rw [Bool.and_eq_true, decide_eq_true_eq, Bool.not_eq_true']
  exact ⟨h1, anyN_no fun i hi => by rw [h2 i hi]; rfl⟩
theorem fenMay_not {l : List Int} {i : Nat} (hi : i < l.length) (h : fenOk (l.getD i 0) = false) : fenMayB l = false := by
  unfold fenMayB
  rw [Bool.and_eq_false_iff, Bool.not_eq_false']
  exact .inr (anyN_yes hi (by simp only [h]; rfl))
theorem fenMay_long {l : List Int} (h : 300 < l.length) : fenMayB l = false := by
  unfold fenMayB
  rw [Bool.and_eq_false_iff, decide_eq_false_iff_not]
  exact .inl (by omega)
attribute [irreducible] fenMayB
/-- The numbers that a table tells. -/
def fenNums (l : List Int) (n : Nat) : List Int := (List.range n).map fun i => fenP l (i + 1) - fenP l i
theorem fenNums_length (l : List Int) (n : Nat) : (fenNums l n).length = n := by simp [fenNums]
theorem fenNums_at (l : List Int) {n i : Nat} (h : i < n) : (fenNums l n).getD i 0 = fenP l (i + 1) - fenP l i := by simp [fenNums, h]
theorem fenNums_succ (l : List Int) (n : Nat) : fenNums l (n + 1) = fenNums l n ++ [fenP l (n + 1) - fenP l n] := by simp [fenNums, List.range_succ]
theorem fenNums_0 (l : List Int) : fenNums l 0 = [] := rfl
theorem fenP_300 {l : List Int} (h : ∀ i, -1099511627776 ≤ l.getD i 0 ∧ l.getD i 0 ≤ 1099511627776) {j : Nat} (hj : j ≤ 301) : -400000000000000 ≤ fenP l j ∧ fenP l j ≤ 400000000000000 := by
  have := fenP_bd h j j (Nat.le_refl _)
  omega
attribute [irreducible] fenNums
end Go.Dam
namespace Go.Proofs.Ytiflelifkjfpdaa
open Go Go.RowKit Go.Dam
set_option linter.unusedVariables false
set_option maxHeartbeats 400000 in
theorem fenMay_any (v : Value) (l : List Int) (b : Bool) (w : World) (B : Nat) (h : IsInts .i64 w B v l) (hb : fenMayB l = b) :
    Calls Try.prog 52 #[v] w fun e w' => e = .returned (.bool b) ∧ w = w' := by
  have HC := fun b (hb : anyN (fun i => !fenOk (l.getD i 0)) l.length = b) => fenMayContains_any (fun x => !fenOk x) (fun x W _ => fenBig_any x W) v l b w B h hb
  obtain ⟨A, c, rfl, hc, hm, hn, hr, hw⟩ := h
  clear hr hw
  cases b with
  | true =>
    obtain ⟨h1, h2, _⟩ := fenMay_yes hb
    have HC := Lib.hid (HC _ h2)
    clear h2 hb
    go_enter Try.func52, Try.ntmps52
    go_wp2_with (go_at_call 47; refine (HC.out).mono ?_; rintro e w1 ⟨rfl, rfl⟩)
    go_ret
    exact ⟨ret_bool (by simp), rfl⟩
  | false =>
    rcases fenMay_no hb with h1 | ⟨h1, h2⟩
    · clear hb HC
      have t1 : decide ((l.length : Int) ≤ 300) = false := by simp; omega
      go_enter Try.func52, Try.ntmps52
      go_wp2_with fail
      go_ret
      exact ⟨ret_bool (by simp <;> omega), rfl⟩
    · have HC := Lib.hid (HC _ h2)
      clear h2 hb
      go_enter Try.func52, Try.ntmps52
      go_wp2_with (go_at_call 47; refine (HC.out).mono ?_; rintro e w1 ⟨rfl, rfl⟩)
      go_ret
      exact ⟨ret_bool (by simp), rfl⟩
set_option maxHeartbeats 400000 in
theorem refFenMay_any (v : Value) (l : List Int) (b : Bool) (w : World) (B : Nat) (h : IsInts .i64 w B v l) (hb : fenMayB l = b) :
    Calls Try.prog 53 #[v] w fun e w' => e = .returned (.bool b) ∧ w = w' := by
  obtain ⟨A, c, rfl, hc, hm, hn, hr, hw⟩ := h
  have HB := Lib.hid hb
  clear hb hw
  go_enter Try.func53, Try.ntmps53
  go_wp2_with fail
  go_loop [7] (fun iv => ∃ i : Nat, i ≤ l.length ∧ iv = .int .i64 i ∧ (∀ j, j < i → fenOk (l.getD j 0) = true)) (fun iv => l.length - (intOf iv).toNat)
  case atStart => exact ⟨0, by omega, rfl, fun j hj => absurd hj (by omega)⟩
  case round =>
    obtain ⟨i, hi, rfl, hyes⟩ := hrel
    by_cases hlt : i < l.length
    · obtain ⟨bk, off, rfl, hbk, hcells⟩ := ints_cells hr (by omega)
      have c0 := hcells i hlt
      cases hp : fenOk (l.getD i 0) with
      | true =>
        have HY : Hid (∀ j, j < i + 1 → fenOk (l.getD j 0) = true) := Lib.hid fun j hj => by
          rcases Nat.lt_or_ge j i with h1 | h1
          · exact hyes j h1
          · rw [show j = i from by omega]; exact hp
        obtain ⟨g1, g2⟩ := fenOk_yes hp
        generalize l.getD i 0 = x at *
        clear hcells hyes hp
        have t1 : decide (x < -1099511627776) = false := by simp; omega
        go_wp2_with fail
        go_round
        case rel => exact ⟨i + 1, by omega, by go_num, HY.out⟩
        case measure => simp [intOf]; omega
      | false =>
        have HE : Hid (b = false) := Lib.hid (by rw [← HB.out]; exact fenMay_not hlt hp)
        have g := fenOk_no hp
        generalize l.getD i 0 = x at *
        clear hcells hyes hp
        by_cases g1 : x < -1099511627776
        · have t1 : decide (x < -1099511627776) = true := by simp; omega
          clear g
          go_wp2_with fail
          go_ret
          exact ⟨ret_bool HE.out.symm, rfl⟩
        · have t1 : decide (x < -1099511627776) = false := by simp; omega
          have g2 : 1099511627776 < x := by omega
          clear g
          go_wp2_with fail
          go_ret
          exact ⟨ret_bool HE.out.symm, rfl⟩
    · obtain rfl : i = l.length := by omega
      cases b with
      | true =>
        have h3 := (fenMay_yes HB.out).1
        clear hyes
        go_wp2_with fail
        go_ret
        exact ⟨ret_bool (by simp <;> omega), rfl⟩
      | false =>
        have h3 : 300 < l.length := by
          rcases Nat.lt_or_ge 300 l.length with h1 | h1
          · exact h1
          · have := fenMay_of h1 hyes
            rw [HB.out] at this; cases this
        clear hyes
        go_wp2_with fail
        go_ret
        exact ⟨ret_bool (by simp <;> omega), rfl⟩
set_option maxHeartbeats 400000 in
theorem fensum_any (v : Value) (l : List Int) (i : Nat) (w : World) (B : Nat) (h : IsInts .i64 w B v l) (hb : fenMayB l = true) (hi : i ≤ l.length) :
    Calls Try.prog 54 #[v, .int .i64 i] w fun e w' => e = .returned (.int .i64 (fenP l i)) ∧ w = w' := by
  obtain ⟨A, c, rfl, hc, hm, hn, hr, hw⟩ := h
  obtain ⟨h1, _, hok⟩ := fenMay_yes hb
  have HOk := Lib.hid hok
  clear hb hw hok
  go_enter Try.func54, Try.ntmps54
  go_wp2_with fail
  go_loop [1, 5] (fun iv nv => ∃ j : Nat, ∃ s : Int, j ≤ i ∧ iv = .int .i64 j ∧ nv = .int .i64 s ∧ s + fenP l j = fenP l i) (fun iv _ => (intOf iv).toNat)
  case atStart => exact ⟨i, 0, by omega, rfl, rfl, by omega⟩
  case round =>
    obtain ⟨j, s, hj, rfl, rfl, hs⟩ := hrel
    cases j with
    | zero =>
      have HS : Hid (s = fenP l i) := Lib.hid (by rw [fenP_0] at hs; omega)
      clear hs
      go_wp2_with fail
      go_ret
      exact ⟨ret_int HS.out, rfl⟩
    | succ j =>
      obtain ⟨bk, off, rfl, hbk, hcells⟩ := ints_cells hr (by omega)
      have c0 := hcells j (by omega)
      have e1 := fenP_succ l j
      have b1 := fenP_300 HOk.out (j := i) (by omega)
      have b2 := fenP_300 HOk.out (j := j + 1) (by omega)
      have b3 := fenP_300 HOk.out (j := fenLo j) (by have := fenLo_le j; omega)
      have hlo := fenLo_le j
      have ea := fenLo_int j (by omega)
      have hs1 : -900000000000000 ≤ s ∧ s ≤ 900000000000000 := by omega
      have HS : Hid (s + l.getD j 0 + fenP l (fenLo j) = fenP l i) := Lib.hid (by omega)
      obtain ⟨x0, x1⟩ := HOk.out j
      clear hcells hs e1 b1 b2 b3
      generalize l.getD j 0 = x at *
      generalize fenLo j = m at *
      go_wp2_with fail
      go_round
      case rel => exact ⟨m, s + x, by omega, rfl, rfl, HS.out⟩
      case measure => simp [intOf]; omega
set_option maxHeartbeats 400000 in
theorem fenFrom_any (i : Nat) (w : World) (hi : i < 300) :
    Calls Try.prog 51 #[.int .i64 i] w fun e w' => e = .returned (.int .i64 (fenLo i : Nat)) ∧ w = w' := by
  go_enter Try.func51, Try.ntmps51
  go_wp2_with fail
  go_loop [3] (fun lv => ∃ m q : Nat, m < 10 ∧ q = 2 ^ m ∧ (i + 1) % q = 0 ∧ lv = .int .i64 q) (fun lv => 1024 - (intOf lv).toNat)
  case atStart => exact ⟨0, 1, by omega, rfl, by omega, rfl⟩
  case round =>
    obtain ⟨m, q, hm, hq, hd, rfl⟩ := hrel
    have hq1 : 0 < q := by rw [hq]; exact Nat.two_pow_pos m
    have hq2 : q ≤ 512 := by rw [hq]; exact Nat.pow_le_pow_right (by omega : 0 < 2) (by omega : m ≤ 9)
    have hqi : q ≤ i + 1 := Nat.le_of_dvd (by omega) (Nat.dvd_of_mod_eq_zero hd)
    by_cases h2 : (i + 1) % (2 * q) = 0
    · have hqi2 : 2 * q ≤ i + 1 := Nat.le_of_dvd (by omega) (Nat.dvd_of_mod_eq_zero h2)
      have HQ : Hid (q * 2 = 2 ^ (m + 1)) := Lib.hid (by rw [hq, Nat.pow_succ])
      have hm9 : m + 1 < 10 := by
        rcases Nat.lt_or_ge m 9 with h | h
        · omega
        · have : 2 ^ 9 ≤ q := by rw [hq]; exact Nat.pow_le_pow_right (by omega) h
          omega
      have HD : Hid ((i + 1) % (q * 2) = 0) := Lib.hid (by rw [Nat.mul_comm]; exact h2)
      have t1 : (((i : Int) + 1) % (2 * (q : Int)) == 0) = true := by
        rw [beq_iff_eq]; have e : ((i : Int) + 1) % (2 * (q : Int)) = (((i + 1) % (2 * q) : Nat) : Int) := by simp
        rw [e, h2]; rfl
      clear hq hd h2
      go_wp2_with fail
      go_round
      case rel => exact ⟨m + 1, q * 2, hm9, HQ.out, HD.out, by go_num⟩
      case measure => simp [intOf]; omega
    · have hL := low_found hi hm (by rw [← hq]; exact hd) (by rw [← hq]; exact h2)
      rw [← hq] at hL
      have HL := Lib.hid hL
      have t1 : (((i : Int) + 1) % (2 * (q : Int)) == 0) = false := by
        rw [beq_eq_false_iff_ne]; have e : ((i : Int) + 1) % (2 * (q : Int)) = (((i + 1) % (2 * q) : Nat) : Int) := by simp
        rw [e]; intro h; exact h2 (by omega)
      clear hq hd h2 hL
      go_wp2_with fail
      go_ret
      exact ⟨ret_int (by rw [← HL.out]; omega), rfl⟩
theorem el_int' : El Try.prog 22 3 (.int .i64 0) 1 8 := ⟨Try.underlying22, by kernel_rfl, rfl, by decide⟩
set_option maxHeartbeats 1000000 in
theorem fenNumbers_any (v : Value) (l : List Int) (w : World) (B : Nat) (hB : B ≤ w.heap.size) (h : IsInts .i64 w B v l) (hb : fenMayB l = true) :
    Calls Try.prog 55 #[v] w fun e w' => ∃ u, e = .returned u ∧ IsInts .i64 w' w'.heap.size u (fenNums l l.length) ∧ Below w.heap.size w w' := by
  obtain ⟨A, c, rfl, hc, hm, hn, hr, hw⟩ := h
  obtain ⟨h1, _, hok⟩ := fenMay_yes hb
  have HOk := Lib.hid hok
  have HBD : Hid (∀ j, j ≤ 301 → -400000000000000 ≤ fenP l j ∧ fenP l j ≤ 400000000000000) := Lib.hid fun j hj => fenP_300 hok hj
  clear hb hw hok
  go_enter Try.func55, Try.ntmps55
  go_wp2_with fail
  go_loopw [3, 9] (fun ov iv wr => ∃ i : Nat, i ≤ l.length ∧ iv = .int .i64 i ∧ wr.ownsRow w.heap.size 3 1 ov i ((fenNums l i).map (Value.int .i64)) ∧ Below w.heap.size w wr) (fun _ iv _ => l.length - (intOf iv).toNat)
  case atStart => exact ⟨0, by omega, rfl, by rw [fenNums_0]; exact World.ownsRow_nil _ _ _ _, Below.refl _ _⟩
  case round =>
    obtain ⟨i, hi, rfl, hown, hbel⟩ := hrel
    obtain ⟨wo, rfl⟩ : ∃ wo : World, wo = wr := ⟨_, rfl⟩
    have hz := hbel.size
    by_cases hlt : i < l.length
    · obtain ⟨bk, off, rfl, hbk, hcells⟩ := ints_cells hr (by omega)
      have c0 := (hbel.cell (p := ⟨bk, off + i, none⟩) (by simp; omega)).trans (hcells i hlt)
      have HO := Lib.hid hown
      have HB := Lib.hid hbel
      obtain ⟨A2, cap2, rfl⟩ := own_shape hown
      have hlo := fenLo_le i
      obtain ⟨ti, hti⟩ : ∃ ti, ti = l.getD i 0 := ⟨_, rfl⟩
      have hS := fenP_succ l i
      rw [← hti] at c0 hS
      have HS := Lib.hid hS
      have htb := HOk.out i
      rw [← hti] at htb
      clear hS hti
      have HCell : Hid (∀ j, j < i → ∃ g, A2 = some ⟨g, 0, none⟩ ∧ wo.cell? ⟨g, j, none⟩ = some (.int .i64 (fenP l (j + 1) - fenP l j))) := Lib.hid fun j hj => by
        obtain ⟨g, cap, hf, _, _⟩ := hown.form (by omega)
        have hA : A2 = some ⟨g, 0, none⟩ := by injection hf
        subst hA
        refine ⟨g, rfl, ?_⟩
        rw [hown.cellAt j (by omega)]
        have := fenNums_at l hj
        simp [fenNums_length, hj]
        rw [← this]; simp [fenNums_length, hj]
      clear hcells hown hbel
      go_wp2_with (go_at_call 51; refine (fenFrom_any i _ (by omega)).mono ?_; rintro e w1 ⟨rfl, rfl⟩)
      go_loop [5, 6] (fun nv kv => ∃ k : Nat, ∃ x : Int, fenLo i ≤ k ∧ k ≤ i ∧ kv = .int .i64 k ∧ nv = .int .i64 x ∧ x = ti - (fenP l k - fenP l (fenLo i))) (fun _ kv => i - (intOf kv).toNat)
      case atStart => exact ⟨fenLo i, _, by omega, hlo, rfl, rfl, by omega⟩
      case round =>
        obtain ⟨k, x, hk1, hk2, rfl, rfl, hx⟩ := hrel
        have b1 := HBD.out k (by omega)
        have b2 := HBD.out (k + 1) (by omega)
        have b3 := HBD.out (fenLo i) (by omega)
        have b4 := HBD.out i (by omega)
        have b5 := HBD.out (i + 1) (by omega)
        obtain ⟨x0, x1⟩ := htb
        by_cases hki : k < i
        · obtain ⟨g, rfl, k5⟩ := HCell.out k hki
          have HX : Hid (x - (fenP l (k + 1) - fenP l k) = ti - (fenP l (k + 1) - fenP l (fenLo i))) := Lib.hid (by omega)
          have hxb : -2000000000000000 ≤ x ∧ x ≤ 2000000000000000 := by omega
          have hyb : -2000000000000000 ≤ fenP l (k + 1) - fenP l k ∧ fenP l (k + 1) - fenP l k ≤ 2000000000000000 := by omega
          generalize fenP l (k + 1) - fenP l k = y at *
          clear hx b1 b2 b3 b4 b5
          go_wp2_with fail
          go_round
          case rel => exact ⟨k + 1, _, by omega, by omega, by go_num, rfl, HX.out⟩
          case measure => simp [intOf]; omega
        · obtain rfl : k = i := by omega
          have HX : Hid (x = fenP l (k + 1) - fenP l k) := Lib.hid (by have := HS.out; omega)
          clear hx b1 b2 b3 b4 b5 x0 x1
          go_wp2_with (at_builtin; refine wpList_pushD el_int' rfl (.tmp 27) (.tmp 29) rfl w.heap.size _ k _ (HO.out.alloc _) rfl wo.heap.size 1 _ rfl (by simp; rfl) rfl (by omega) (by omega) (by simp; omega) ?_; intro v' w2 hown2 hg2 hl2)
          go_roundw
          case rel => exact ⟨k + 1, by omega, by go_num, by rw [fenNums_succ, List.map_append, ← HX.out]; exact hown2, below_push (HB.out.alloc hz _) (HO.out.alloc _) (Nat.le_refl _) (by simp; omega) hg2⟩
          case measure => simp [intOf]; omega
    · obtain rfl : i = l.length := by omega
      have HO := Lib.hid hown
      have HB := Lib.hid hbel
      clear hown hbel
      go_wp2
      go_ret
      refine ⟨_, rfl, own_ints HO.out (by rw [fenNums_length]; omega) (fun z hz => ?_), HB.out⟩
      obtain ⟨j, hj, rfl⟩ := List.mem_iff_getElem.1 hz
      rw [fenNums_length] at hj
      have e := fenNums_at l hj
      rw [List.getD_eq_getElem?_getD, List.getElem?_eq_getElem (by rw [fenNums_length]; exact hj)] at e
      have b1 := HBD.out j (by omega)
      have b2 := HBD.out (j + 1) (by omega)
      refine int_wf ?_
      simp only [Option.getD_some] at e
      rw [e]; unfold I64; omega
end Go.Proofs.Ytiflelifkjfpdaa
