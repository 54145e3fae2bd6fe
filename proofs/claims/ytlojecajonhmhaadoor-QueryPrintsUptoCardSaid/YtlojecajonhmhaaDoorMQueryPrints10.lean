/-
  Contract of query.fault: the fault of an expression. Conditions: the expression can be read eight levels down.
-/
import Derived.Test.YtlojecajonhmhaaDoorMQueryPrints05
import Derived.Test.YtlojecajonhmhaaDoorMQueryPrints06
import Derived.Test.YtlojecajonhmhaaDoorMQueryPrints07
import Derived.Test.YtlojecajonhmhaaDoorMQueryPrints08
import Derived.Test.YtlojecajonhmhaaDoorMQueryPrints09
set_option linter.unusedVariables false
set_option linter.unusedSimpArgs false
namespace Go.Proofs.YtlojecajonhmhaaDoor
open Go Go.RowKit Go.Dam Go.Dam.Q
set_option linter.unusedVariables false
theorem near_of {n : Int} (h : -1048576 ≤ n ∧ n ≤ 1048576) : nearQ n = true := by unfold nearQ; rw [decide_eq_true h.1, decide_eq_true h.2]; rfl
theorem queryFault_any : ∀ (f : Nat) (x : Ex) (v : Value) (w : World) (B : Nat) (d : Int), d = 8 - (f : Int) → f ≤ 8 → B ≤ w.heap.size → IsEx w B f v x →
    Calls Tryd.prog 17 #[v, .int .i64 d] w fun e w' => e = .returned (.int .i64 (faultN f x)) ∧ Below w.heap.size w w'
  | 0, x, v, w, B, d, hd, _, hB, h => by
    obtain rfl : d = 8 := by omega
    exact queryFault_deep x v w B h
  | f + 1, .mk k x0 y0 x1 y1 ww ps, v, w, B, d, hd, hf, hB, h => by
    have HIH := Lib.hid fun x v w hB h => queryFault_any f x v w B (d + 1) (by omega) (by omega) hB h
    obtain ⟨A, c, rfl, hn, hnc, hc, hp⟩ := h.open_
    by_cases hh : headCode k x0 y0 x1 y1 ww ps.length = 0
    rotate_left
    · rw [faultN_head hh]
      exact queryFault_head k x0 y0 x1 y1 ww A ps.length c d w hn (by omega) hh
    have HOk := headOk hh
    have HF0 := Lib.hid (faultN_fine (f := f) hh)
    have HF1 := Lib.hid fun i => faultN_part (f := f) (i := i) hh
    have HP := Lib.hid hp
    have hd3 : d < 8 := by omega
    have hd4 : 0 ≤ d := by omega
    have a := HOk.k1
    have b := HOk.k5
    rcases (show k = 1 ∨ k = 2 ∨ k = 3 ∨ k = 4 ∨ k = 5 by omega) with e | e | e | e | e
    · obtain rfl := e
      have h1 := HOk.none (by omega)
      obtain rfl := HOk.wz (by omega)
      exact queryFault_k1 f x0 y0 x1 y1 ps w B d A _ c hd3 hd4 hB HIH HP _ HF0 HF1 hn hnc hc (near_of HOk.c0) (near_of HOk.c1) (near_of HOk.c2) (near_of HOk.c3) (by omega)
    · obtain rfl := e
      have h1 := HOk.none (by omega)
      obtain ⟨rfl, rfl, rfl, rfl⟩ := HOk.rect (by omega)
      exact queryFault_k2 f ww ps w B d A _ c hd3 hd4 hB HIH HP _ HF0 HF1 hn hnc hc (near_of HOk.c4) (by omega)
    · obtain rfl := e
      have h1 := HOk.two (.inl rfl)
      obtain rfl := HOk.wz (by omega)
      obtain ⟨rfl, rfl, rfl, rfl⟩ := HOk.rect (by omega)
      exact queryFault_k3 f ps w B d A _ c hd3 hd4 hB HIH HP _ HF0 HF1 hn hnc hc (decide_eq_false (by omega))
    · obtain rfl := e
      have h1 := HOk.two (.inr rfl)
      obtain rfl := HOk.wz (by omega)
      obtain ⟨rfl, rfl, rfl, rfl⟩ := HOk.rect (by omega)
      exact queryFault_k4 f ps w B d A _ c hd3 hd4 hB HIH HP _ HF0 HF1 hn hnc hc (decide_eq_false (by omega))
    · obtain rfl := e
      have h1 := HOk.one rfl
      obtain rfl := HOk.wz (by omega)
      obtain ⟨rfl, rfl, rfl, rfl⟩ := HOk.rect (by omega)
      exact queryFault_k5 f ps w B d A _ c hd3 hd4 hB HIH HP _ HF0 HF1 hn hnc hc (by rw [h1]; rfl)
end Go.Proofs.YtlojecajonhmhaaDoor
