/-
  Texts of one claim behind each other. Conditions: none of its own.
-/
import Derived.Test.YtdmfhpigchbcbaaMTopMax00
import Derived.Test.YtdmfhpigchbcbaaMTopMax03
import Derived.Test.YtdmfhpigchbcbaaMTopMax05
/-
  Contracts of rmq.top and the reference's topOf. Conditions: the list can be read as data; the places are within it.
-/
namespace Go.Proofs.Ytdmfhpigchbcbaa
open Go Go.RowKit Go.Dam
set_option linter.unusedVariables false
set_option maxHeartbeats 400000 in
theorem rmqtop_any (v : Value) (l : List Int) (a b r : Nat) (w : World) (B : Nat) (h : IsInts .i64 w B v l) (ha : a < l.length) (hb : b < l.length) (hr : (l.getD a 0 < l.getD b 0 ∧ r = b) ∨ (l.getD b 0 ≤ l.getD a 0 ∧ r = a)) :
    Calls Try.prog 19 #[v, .int .i64 a, .int .i64 b] w fun e w' => e = .returned (.int .i64 r) ∧ Drawn w w' := by
  obtain ⟨A, c, rfl, hc, hm, hn, hrd, hw⟩ := h
  obtain ⟨bk, off, rfl, hbk, hcells⟩ := ints_cells hrd (by omega)
  have k0 := hcells a ha
  have k1 := hcells b hb
  generalize l.getD a 0 = x at *
  generalize l.getD b 0 = y at *
  clear hcells hrd hw
  rcases hr with ⟨h1, rfl⟩ | ⟨h1, rfl⟩
  · go_enter Try.func19, Try.ntmps19
    go_wp2_with fail
    go_quiet (fail)
    go_wp2
    go_ret
    exact ⟨rfl, (Drawn.refl _).drewN _⟩
  · have t0 : decide (x < y) = false := by simp; omega
    go_enter Try.func19, Try.ntmps19
    go_wp2_with fail
    go_quiet (fail)
    go_wp2
    go_ret
    exact ⟨rfl, (Drawn.refl _).drewN _⟩
end Go.Proofs.Ytdmfhpigchbcbaa

/-
  What the program's tables say of []int as an element of [][]int. Conditions: none.
-/
namespace Go.Proofs.Ytdmfhpigchbcbaa
open Go Go.RowKit Go.Dam
theorem el_rows : El Try.prog 25 22 (.slice none 0 0) 1 24 := ⟨Try.underlying25, by kernel_rfl, rfl, by decide⟩
end Go.Proofs.Ytdmfhpigchbcbaa
