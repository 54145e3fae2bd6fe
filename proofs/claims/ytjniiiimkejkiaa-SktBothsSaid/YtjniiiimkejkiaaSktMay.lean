/-
  Contracts of skt.may (with its tests and the library's ContainsFunc and IndexFunc at [][]int) and the reference's sktMay: may rows be a sketch? Conditions: the rows can be read as data.
-/
import Derived.Test.YtjniiiimkejkiaaSktRowAny
import Derived.Test.YtjniiiimkejkiaaIntRows
namespace Go.Dam
open Go Go.RowKit
/-- May it be a row of a sketch? -/
def rowOk (l : List Int) : Bool := decide (l.length = 64) && !(anyN (fun i => !codeOk (l.getD i 0)) l.length)
theorem rowOk_yes {l : List Int} (h : rowOk l = true) : l.length = 64 ∧ anyN (fun i => !codeOk (l.getD i 0)) l.length = false ∧ ∀ i, 0 ≤ l.getD i 0 ∧ l.getD i 0 ≤ 1048576 := by
  unfold rowOk at h
  rw [Bool.and_eq_true, decide_eq_true_eq, Bool.not_eq_true'] at h
  refine ⟨h.1, h.2, fun i => ?_⟩
  rcases Nat.lt_or_ge i l.length with h1 | h1
  · have := anyN_false h.2 i h1
    simp only [Bool.not_eq_false'] at this
    exact codeOk_yes this
  · simp [h1]
theorem rowOk_no {l : List Int} (h : rowOk l = false) : l.length ≠ 64 ∨ (l.length = 64 ∧ anyN (fun i => !codeOk (l.getD i 0)) l.length = true) := by
  unfold rowOk at h
  by_cases h1 : l.length = 64
  · refine .inr ⟨h1, ?_⟩
    rw [Bool.and_eq_false_iff, decide_eq_false_iff_not, Bool.not_eq_false'] at h
    rcases h with h | h
    · exact absurd h1 h
    · exact h
  · exact .inl h1
theorem rowOk_of {l : List Int} (h1 : l.length = 64) (h2 : ∀ i, i < 64 → codeOk (l.getD i 0) = true) : rowOk l = true := by
  unfold rowOk
  rw [Bool.and_eq_true, decide_eq_true_eq, Bool.not_eq_true']
  exact ⟨h1, anyN_no fun i hi => by rw [h2 i (by omega)]; rfl⟩
theorem rowOk_len {l : List Int} (h : l.length ≠ 64) : rowOk l = false := by
  unfold rowOk; rw [Bool.and_eq_false_iff, decide_eq_false_iff_not]; exact .inl h
theorem rowOk_at {l : List Int} {i : Nat} (hi : i < l.length) (h : codeOk (l.getD i 0) = false) : rowOk l = false := by
  unfold rowOk; rw [Bool.and_eq_false_iff, Bool.not_eq_false']; exact .inr (anyN_yes hi (by simp only [h]; rfl))
attribute [irreducible] rowOk
/-- May they be a sketch? -/
def sktOk (ls : List (List Int)) : Bool := decide (1 ≤ ls.length ∧ ls.length ≤ 8) && !(anyN (fun i => !rowOk (ls.getD i [])) ls.length)
theorem sktOk_yes {ls : List (List Int)} (h : sktOk ls = true) : 1 ≤ ls.length ∧ ls.length ≤ 8 ∧ anyN (fun i => !rowOk (ls.getD i [])) ls.length = false ∧ ∀ i, i < ls.length → rowOk (ls.getD i []) = true := by
  unfold sktOk at h
  rw [Bool.and_eq_true, decide_eq_true_eq, Bool.not_eq_true'] at h
  refine ⟨h.1.1, h.1.2, h.2, fun i h1 => ?_⟩
  have := anyN_false h.2 i h1
  simpa using this
theorem sktOk_no {ls : List (List Int)} (h : sktOk ls = false) : ls.length = 0 ∨ 8 < ls.length ∨ (1 ≤ ls.length ∧ ls.length ≤ 8 ∧ anyN (fun i => !rowOk (ls.getD i [])) ls.length = true) := by
  unfold sktOk at h
  rw [Bool.and_eq_false_iff, decide_eq_false_iff_not, Bool.not_eq_false'] at h
  by_cases h1 : 1 ≤ ls.length ∧ ls.length ≤ 8
  · rcases h with h | h
    · exact absurd h1 h
    · exact .inr (.inr ⟨h1.1, h1.2, h⟩)
  · omega
theorem sktOk_of {ls : List (List Int)} (h1 : 1 ≤ ls.length) (h2 : ls.length ≤ 8) (h3 : ∀ i, i < ls.length → rowOk (ls.getD i []) = true) : sktOk ls = true := by
  unfold sktOk
  rw [Bool.and_eq_true, decide_eq_true_eq, Bool.not_eq_true']
  exact ⟨⟨h1, h2⟩, anyN_no fun i hi => by rw [h3 i hi]; rfl⟩
theorem sktOk_not {ls : List (List Int)} {i : Nat} (hi : i < ls.length) (h : rowOk (ls.getD i []) = false) : sktOk ls = false := by
  unfold sktOk; rw [Bool.and_eq_false_iff, Bool.not_eq_false']; exact .inr (anyN_yes hi (by simp only [h]; rfl))
theorem sktOk_len {ls : List (List Int)} (h : ls.length = 0 ∨ 8 < ls.length) : sktOk ls = false := by
  unfold sktOk; rw [Bool.and_eq_false_iff, decide_eq_false_iff_not]; exact .inl (by omega)
attribute [irreducible] sktOk
end Go.Dam
namespace Go.Proofs.Ytjniiiimkejkiaa
open Go Go.RowKit Go.Dam
set_option linter.unusedVariables false
set_option maxHeartbeats 400000 in
theorem sktOdd_any (v : Value) (l : List Int) (b : Bool) (w : World) (B : Nat) (h : IsInts .i64 w B v l) (hb : (!rowOk l) = b) :
    Calls Try.prog 79 #[v] w fun e w' => e = .returned (.bool b) ∧ w = w' := by
  have HC := fun b (hb : anyN (fun i => !codeOk (l.getD i 0)) l.length = b) => sktRowContains_any (fun x => !codeOk x) (fun x W _ => sktFar2_any x W) v l b w B h hb
  obtain ⟨A, c, rfl, hc, hm, hn, hr, hw⟩ := h
  clear hr hw
  cases b with
  | true =>
    rw [Bool.not_eq_true'] at hb
    rcases rowOk_no hb with h1 | ⟨h1, h2⟩
    · have t1 : ((l.length : Int) != 64) = true := by simp; omega
      clear hb HC
      go_enter Try.func79, Try.ntmps79
      go_wp2_with fail
      go_ret
      exact ⟨ret_bool (by simp), rfl⟩
    · have t1 : ((l.length : Int) != 64) = false := by rw [h1]; rfl
      have HC := Lib.hid (HC _ h2)
      clear hb h1 h2
      go_enter Try.func79, Try.ntmps79
      go_wp2_with (go_at_call 40; refine (HC.out).mono ?_; rintro e w1 ⟨rfl, rfl⟩)
      go_ret
      exact ⟨ret_bool (by simp), rfl⟩
  | false =>
    rw [Bool.not_eq_false'] at hb
    obtain ⟨h1, h2, _⟩ := rowOk_yes hb
    have t1 : ((l.length : Int) != 64) = false := by rw [h1]; rfl
    have HC := Lib.hid (HC _ h2)
    clear hb h1 h2
    go_enter Try.func79, Try.ntmps79
    go_wp2_with (go_at_call 40; refine (HC.out).mono ?_; rintro e w1 ⟨rfl, rfl⟩)
    go_ret
    exact ⟨ret_bool (by simp), rfl⟩
set_option maxHeartbeats 400000 in
theorem sktIndex_any (v : Value) (ls : List (List Int)) (k : Int) (w : World) (B : Nat) (h : IsRows w B v ls) (hk : FirstR (fun i => !rowOk (ls.getD i [])) ls.length k) :
    Calls Try.prog 102 #[v, .func (.func 79) #[] #[]] w fun e w' => e = .returned (.int .i64 k) ∧ w = w' := by
  obtain ⟨A, c, vs, rfl, hc, hm, hn, hl, hr, hi⟩ := h
  have HK := Lib.hid hk
  have HF := Lib.hid fun i (hin : i < ls.length) b (hb : (!rowOk (ls.getD i [])) = b) => sktOdd_any (vs.getD i undef) _ b w B (hi i hin) hb
  have HL := Lib.hid hl
  clear hk hi hl
  go_enter Try.func102, Try.ntmps102
  go_wp2_with fail
  go_loop [8] (fun iv => ∃ i : Nat, i ≤ ls.length ∧ iv = .int .i64 i ∧ (∀ j, j < i → (!rowOk (ls.getD j [])) = false)) (fun iv => ls.length - (intOf iv).toNat)
  case atStart => exact ⟨0, by omega, rfl, fun j hj => absurd hj (by omega)⟩
  case round =>
    obtain ⟨i, hi, rfl, hno⟩ := hrel
    by_cases hlt : i < ls.length
    · obtain ⟨b, off, rfl, hb, hcells⟩ := IsRows.cells (c := c) HL.out hr (by omega)
      have c0 := hcells i hlt
      cases hp : (!rowOk (ls.getD i [])) with
      | true =>
        have HC := Lib.hid (HF.out i hlt _ hp)
        have HE : Hid (k = i) := Lib.hid (HK.out.is hlt hp hno)
        generalize vs.getD i undef = x at *
        clear hcells hno hp
        go_wp2_with (go_at_call 79; refine (HC.out).mono ?_; rintro e w1 ⟨rfl, rfl⟩)
        go_ret
        exact ⟨ret_int HE.out.symm, rfl⟩
      | false =>
        have HC := Lib.hid (HF.out i hlt _ hp)
        have HN := Lib.hid (no_step hno hp)
        generalize vs.getD i undef = x at *
        clear hcells hno hp
        go_wp2_with (go_at_call 79; refine (HC.out).mono ?_; rintro e w1 ⟨rfl, rfl⟩)
        go_round
        case rel => exact ⟨i + 1, by omega, by go_num, HN.out⟩
        case measure => simp [intOf]; omega
    · obtain rfl : i = ls.length := by omega
      have HE : Hid (k = -1) := Lib.hid (HK.out.none_ hno)
      clear hno
      go_wp2
      go_ret
      exact ⟨ret_int HE.out.symm, rfl⟩
set_option maxHeartbeats 400000 in
theorem sktContains_any (v : Value) (ls : List (List Int)) (b : Bool) (w : World) (B : Nat) (h : IsRows w B v ls) (hb : anyN (fun i => !rowOk (ls.getD i [])) ls.length = b) :
    Calls Try.prog 81 #[v, .func (.func 79) #[] #[]] w fun e w' => e = .returned (.bool b) ∧ w = w' := by
  obtain ⟨k, hk⟩ := FirstR.ex (fun i => !rowOk (ls.getD i [])) ls.length
  have HC := Lib.hid (sktIndex_any v ls k w B h hk)
  have HK := Lib.hid (hk.any.trans hb)
  obtain ⟨A, c, vs, rfl, hc, hm, hn, hl, hr, hi⟩ := h
  clear hk hr hi hb hl
  go_enter Try.func81, Try.ntmps81
  go_wp2_with (go_at_call 102; refine (HC.out).mono ?_; rintro e w1 ⟨rfl, rfl⟩)
  go_ret
  exact ⟨ret_bool (by rw [← HK.out]), rfl⟩
set_option maxHeartbeats 400000 in
theorem sktMay_any (v : Value) (ls : List (List Int)) (b : Bool) (w : World) (B : Nat) (h : IsRows w B v ls) (hb : sktOk ls = b) :
    Calls Try.prog 46 #[v] w fun e w' => e = .returned (.bool b) ∧ w = w' := by
  have HC := fun b (hb : anyN (fun i => !rowOk (ls.getD i [])) ls.length = b) => sktContains_any v ls b w B h hb
  obtain ⟨A, c, vs, rfl, hc, hm, hn, hl, hr, hi⟩ := h
  clear hr hi hl
  cases b with
  | true =>
    obtain ⟨h1, h2, h3, _⟩ := sktOk_yes hb
    have HC := Lib.hid (HC _ h3)
    clear hb h3
    go_enter Try.func46, Try.ntmps46
    go_wp2_with (go_at_call 81; refine (HC.out).mono ?_; rintro e w1 ⟨rfl, rfl⟩)
    go_ret
    exact ⟨ret_bool (by simp), rfl⟩
  | false =>
    rcases sktOk_no hb with h1 | h1 | ⟨h1, h2, h3⟩
    · have t1 : decide (1 ≤ (ls.length : Int)) = false := by simp; omega
      have h1' : ls.length < 1 := by omega
      clear hb HC h1
      go_enter Try.func46, Try.ntmps46
      go_wp2_with fail
      go_ret
      exact ⟨rfl, rfl⟩
    · have t1 : decide ((ls.length : Int) ≤ 8) = false := by simp; omega
      clear hb HC
      go_enter Try.func46, Try.ntmps46
      go_wp2_with fail
      go_ret
      exact ⟨rfl, rfl⟩
    · have HC := Lib.hid (HC _ h3)
      clear hb h3
      go_enter Try.func46, Try.ntmps46
      go_wp2_with (go_at_call 81; refine (HC.out).mono ?_; rintro e w1 ⟨rfl, rfl⟩)
      go_ret
      exact ⟨ret_bool (by simp), rfl⟩
set_option maxHeartbeats 1000000 in
theorem refSktMay_any (v : Value) (ls : List (List Int)) (b : Bool) (w : World) (B : Nat) (h : IsRows w B v ls) (hb : sktOk ls = b) :
    Calls Try.prog 47 #[v] w fun e w' => e = .returned (.bool b) ∧ w = w' := by
  obtain ⟨A, c, vs, rfl, hc, hm, hn, hl, hr, hi⟩ := h
  have HI := Lib.hid hi
  have HL := Lib.hid hl
  have HBb := Lib.hid hb
  clear hi hl hb
  by_cases h0 : ls.length = 0
  · have HE : Hid (b = false) := Lib.hid (by rw [← HBb.out]; exact sktOk_len (.inl h0))
    have h1' : ls.length < 1 := by omega
    have t1 : ((ls.length : Int) == 0) = true := by rw [beq_iff_eq]; omega
    clear h0 hr
    go_enter Try.func47, Try.ntmps47
    go_wp2_with fail
    go_ret
    exact ⟨ret_bool HE.out.symm, rfl⟩
  have t0 : ((ls.length : Int) == 0) = false := by rw [beq_eq_false_iff_ne]; omega
  have h0' : 1 ≤ ls.length := by omega
  by_cases h8 : 8 < ls.length
  · have HE : Hid (b = false) := Lib.hid (by rw [← HBb.out]; exact sktOk_len (.inr h8))
    have t1 : decide (8 < (ls.length : Int)) = true := by simp; omega
    clear h0 hr
    go_enter Try.func47, Try.ntmps47
    go_wp2_with fail
    go_ret
    exact ⟨ret_bool HE.out.symm, rfl⟩
  have t1 : decide (8 < (ls.length : Int)) = false := by simp; omega
  clear h0
  go_enter Try.func47, Try.ntmps47
  go_wp2_with fail
  clear t0 t1
  go_loop [17] (fun iv => ∃ i : Nat, i ≤ ls.length ∧ iv = .int .i64 i ∧ (∀ j, j < i → rowOk (ls.getD j []) = true)) (fun iv => ls.length - (intOf iv).toNat)
  case atStart => exact ⟨0, by omega, rfl, fun j hj => absurd hj (by omega)⟩
  case round =>
    obtain ⟨i, hi, rfl, hyes⟩ := hrel
    by_cases hlt : i < ls.length
    · obtain ⟨bk, off, rfl, hbk, hcells⟩ := IsRows.cells (c := c) HL.out hr (by omega)
      have c0 := hcells i hlt
      obtain ⟨A3, c3, e3, hc3, hm3, hn3, hr3, hw3⟩ := HI.out i hlt
      rw [e3] at c0
      have HYes := Lib.hid hyes
      have HRow := Lib.hid fun (h : rowOk (ls.getD i []) = true) => (fun j hj => by
        rcases Nat.lt_or_ge j i with h1 | h1
        · exact HYes.out j h1
        · rw [show j = i from by omega]; exact h : ∀ j, j < i + 1 → rowOk (ls.getD j []) = true)
      have HNo := Lib.hid fun (h : rowOk (ls.getD i []) = false) => (HBb.out.symm.trans (sktOk_not hlt h) : b = false)
      generalize ls.getD i [] = l at *
      clear hcells hyes e3 hw3
      by_cases h64 : l.length = 64
      · have t2 : ((l.length : Int) != 64) = false := by rw [h64]; rfl
        have hl1 : 64 ≤ l.length := by omega
        have hl2 : l.length ≤ 64 := by omega
        have HL64 := Lib.hid h64
        clear h64
        go_wp2_with fail
        go_loop [26] (fun kv => ∃ k : Nat, k ≤ l.length ∧ kv = .int .i64 k ∧ (∀ j, j < k → codeOk (l.getD j 0) = true)) (fun kv => l.length - (intOf kv).toNat)
        case atStart => exact ⟨0, by omega, rfl, fun j hj => absurd hj (by omega)⟩
        case round =>
          obtain ⟨k, hk, rfl, hy2⟩ := hrel
          by_cases hkl : k < l.length
          · obtain ⟨b3, o3, rfl, hb3, hcells3⟩ := ints_cells hr3 (by omega)
            have c3 := hcells3 k hkl
            have HC := fun b (hb : codeOk (l.getD k 0) = b) W => codeMay_any _ b W hb
            cases hp : codeOk (l.getD k 0) with
            | true =>
              have HC := Lib.hid (HC _ hp)
              have HY2 : Hid (∀ j, j < k + 1 → codeOk (l.getD j 0) = true) := Lib.hid fun j hj => by
                rcases Nat.lt_or_ge j k with h1 | h1
                · exact hy2 j h1
                · rw [show j = k from by omega]; exact hp
              generalize l.getD k 0 = x at *
              clear hcells3 hy2 hp
              go_wp2_with (go_at_call 44; refine (HC.out _).mono ?_; rintro e w1 ⟨rfl, rfl⟩)
              go_round
              case rel => exact ⟨k + 1, by omega, by go_num, HY2.out⟩
              case measure => simp [intOf]; omega
            | false =>
              have HC := Lib.hid (HC _ hp)
              have HE := Lib.hid (HNo.out (rowOk_at hkl hp))
              generalize l.getD k 0 = x at *
              clear hcells3 hy2 hp
              go_wp2_with (go_at_call 44; refine (HC.out _).mono ?_; rintro e w1 ⟨rfl, rfl⟩)
              go_ret
              exact ⟨ret_bool HE.out.symm, rfl⟩
          · obtain rfl : k = l.length := by omega
            have HR2 := Lib.hid (HRow.out (rowOk_of HL64.out fun j hj => hy2 j (by omega)))
            clear hy2
            go_wp2_with fail
            go_round
            case rel => exact ⟨i + 1, by omega, by go_num, HR2.out⟩
            case measure => simp [intOf]; omega
      · have t2 : ((l.length : Int) != 64) = true := by simp; omega
        have HE := Lib.hid (HNo.out (rowOk_len h64))
        clear h64
        go_wp2_with fail
        go_ret
        exact ⟨ret_bool HE.out.symm, rfl⟩
    · obtain rfl : i = ls.length := by omega
      have HE : Hid (b = true) := Lib.hid (by rw [← HBb.out]; exact sktOk_of (by omega) (by omega) hyes)
      clear hyes
      go_wp2
      go_ret
      exact ⟨ret_bool HE.out.symm, rfl⟩
end Go.Proofs.Ytjniiiimkejkiaa
