/-
  Contract of the reference's exprFault: the fault of an expression. Conditions: the expression can be read eight levels down.
-/
import Derived.Test.YtlojecajonhmhaaDoorMQueryPrints13
import Derived.Test.YtlojecajonhmhaaDoorMQueryPrints14
import Derived.Test.YtlojecajonhmhaaDoorMQueryPrints15
import Derived.Test.YtlojecajonhmhaaDoorMQueryPrints16
import Derived.Test.YtlojecajonhmhaaDoorMQueryPrints17
set_option linter.unusedVariables false
set_option linter.unusedSimpArgs false
namespace Go.Dam.Q
open Go
open Classical in
/-- Of the form, but with a number that is too great: or fine. -/
theorem form_near {k x0 y0 x1 y1 w : Int} {n : Nat} (h : ¬ (k < 1 ∨ 5 < k)) (h2 : ¬ FormBadP k x0 y0 x1 y1 w n) : headCode k x0 y0 x1 y1 w n = (if (∀ j, j < 5 → nearQ (([x0, x1, y0, y1, w] : List Int).getD j 0) = true) then 0 else 2) := by
  by_cases h3 : (nearQ x0 && nearQ y0 && nearQ x1 && nearQ y1 && nearQ w) = true
  · rw [head0 h h2 h3, if_pos]
    simp only [Bool.and_eq_true] at h3
    intro j hj
    match j, hj with
    | 0, _ => exact h3.1.1.1.1
    | 1, _ => exact h3.1.1.2
    | 2, _ => exact h3.1.1.1.2
    | 3, _ => exact h3.1.2
    | 4, _ => exact h3.2
  · rw [head2 h h2 (by simpa using h3), if_neg]
    intro ha
    apply h3
    simp only [Bool.and_eq_true]
    exact ⟨⟨⟨⟨ha 0 (by omega), ha 2 (by omega)⟩, ha 1 (by omega)⟩, ha 3 (by omega)⟩, ha 4 (by omega)⟩
end Go.Dam.Q
namespace Go.Proofs.YtlojecajonhmhaaDoor
open Go Go.RowKit Go.Dam Go.Dam.Q
set_option linter.unusedVariables false
theorem refFault_any : ∀ (f : Nat) (x : Ex) (v : Value) (w : World) (B : Nat) (d : Int), d = 8 - (f : Int) → f ≤ 8 → B ≤ w.heap.size → IsEx w B f v x →
    Calls Tryd.prog 19 #[v, .int .i64 d] w fun e w' => e = .returned (.int .i64 (faultN f x)) ∧ Below w.heap.size w w'
  | 0, x, v, w, B, d, hd, _, hB, h => by
    obtain rfl : d = 8 := by omega
    exact refFault_deep x v w B h
  | f + 1, .mk k x0 y0 x1 y1 ww ps, v, w, B, d, hd, hf, hB, h => by
    have HIH := Lib.hid fun x v w hB h => refFault_any f x v w B (d + 1) (by omega) (by omega) hB h
    obtain ⟨A, c, rfl, hn, hnc, hc, hp⟩ := h.open_
    by_cases hbad : k < 1 ∨ 5 < k ∨ FormBadP k x0 y0 x1 y1 ww ps.length
    · have hne : headCode k x0 y0 x1 y1 ww ps.length ≠ 0 := by
        by_cases h1 : k < 1 ∨ 5 < k
        · rw [head3 h1]; decide
        · rw [head4 h1 (by rcases hbad with h | h | h; exact absurd (.inl h) h1; exact absurd (.inr h) h1; exact h)]; decide
      rw [faultN_head hne]
      exact refFault_head k x0 y0 x1 y1 ww A ps.length c d w hn (by omega) hbad
    have hk1 : ¬ (k < 1 ∨ 5 < k) := fun h => hbad (by rcases h with h | h; exact .inl h; exact .inr (.inl h))
    have hfb : ¬ FormBadP k x0 y0 x1 y1 ww ps.length := fun h => hbad (.inr (.inr h))
    have hfn := form_near hk1 hfb
    have HF2 := Lib.hid fun (j : Nat) (hj : j < 5) (hz : nearQ (([x0, x1, y0, y1, ww] : List Int).getD j 0) = false) => (show faultN (f + 1) (.mk k x0 y0 x1 y1 ww ps) = 2 by
      have e2 : headCode k x0 y0 x1 y1 ww ps.length = 2 := by rw [hfn, if_neg (fun ha => by have := ha j hj; rw [hz] at this; cases this)]
      rw [faultN_head (by rw [e2]; decide), e2])
    have HF0 := Lib.hid fun (ha : ∀ j, j < 5 → nearQ (([x0, x1, y0, y1, ww] : List Int).getD j 0) = true) => faultN_fine (f := f) (ps := ps) (show headCode k x0 y0 x1 y1 ww ps.length = 0 by rw [hfn, if_pos ha])
    have HF1 := Lib.hid fun (ha : ∀ j, j < 5 → nearQ (([x0, x1, y0, y1, ww] : List Int).getD j 0) = true) i => faultN_part (f := f) (ps := ps) (i := i) (show headCode k x0 y0 x1 y1 ww ps.length = 0 by rw [hfn, if_pos ha])
    have HP := Lib.hid hp
    have hd3 : d < 8 := by omega
    have hd4 : 0 ≤ d := by omega
    unfold FormBadP at hfb
    rcases (show k = 1 ∨ k = 2 ∨ k = 3 ∨ k = 4 ∨ k = 5 by omega) with e | e | e | e | e
    · obtain rfl := e
      have h1 : ps.length = 0 := by omega
      obtain rfl : ww = 0 := by omega
      exact refFault_k1 f x0 y0 x1 y1 ps w B d A _ c hd3 hd4 hB HIH HP _ HF2 HF0 HF1 hn hnc hc (by rw [h1]; rfl)
    · obtain rfl := e
      have h1 : ps.length = 0 := by omega
      obtain ⟨rfl, rfl, rfl, rfl⟩ : x0 = 0 ∧ y0 = 0 ∧ x1 = 0 ∧ y1 = 0 := by omega
      exact refFault_k2 f ww ps w B d A _ c hd3 hd4 hB HIH HP _ HF2 HF0 HF1 hn hnc hc (by rw [h1]; rfl)
    · obtain rfl := e
      obtain rfl : ww = 0 := by omega
      obtain ⟨rfl, rfl, rfl, rfl⟩ : x0 = 0 ∧ y0 = 0 ∧ x1 = 0 ∧ y1 = 0 := by omega
      exact refFault_k3 f ps w B d A _ c hd3 hd4 hB HIH HP _ HF2 HF0 HF1 hn hnc hc (decide_eq_true (by omega))
    · obtain rfl := e
      obtain rfl : ww = 0 := by omega
      obtain ⟨rfl, rfl, rfl, rfl⟩ : x0 = 0 ∧ y0 = 0 ∧ x1 = 0 ∧ y1 = 0 := by omega
      exact refFault_k4 f ps w B d A _ c hd3 hd4 hB HIH HP _ HF2 HF0 HF1 hn hnc hc (decide_eq_true (by omega))
    · obtain rfl := e
      have h1 : ps.length = 1 := by omega
      obtain rfl : ww = 0 := by omega
      obtain ⟨rfl, rfl, rfl, rfl⟩ : x0 = 0 ∧ y0 = 0 ∧ x1 = 0 ∧ y1 = 0 := by omega
      exact refFault_k5 f ps w B d A _ c hd3 hd4 hB HIH HP _ HF2 HF0 HF1 hn hnc hc (by rw [h1]; rfl)
end Go.Proofs.YtlojecajonhmhaaDoor
