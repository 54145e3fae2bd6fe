/-
  Contract of the law's own helper sameWords: two slices that read alike are found alike. Conditions: both read as the same words.
-/
import Derived.Test.YtjnndbllaplkcaaWords
namespace Go.Proofs.Ytjnndbllaplkcaa
open Go Go.RowKit Go.Dam
set_option linter.unusedVariables false

set_option maxHeartbeats 400000 in
theorem sameWords_any (v u : Value) (ws : List Nat) (w : World) (B : Nat) (h : IsWords w B v ws) (h' : IsWords w B u ws) :
    Calls Try.prog 46 #[v, u] w fun e w' => e = .returned (.bool true) ∧ Drawn w w' := by
  obtain ⟨A, c, rfl, hc, hm, hl, hr, hw⟩ := h
  obtain ⟨A', c', rfl, hc', hm', _, hr', _⟩ := h'
  go_enter Try.func46, Try.ntmps46
  go_wp2_with fail
  go_loopw [5] (fun iv wr => ∃ i : Nat, i ≤ ws.length ∧ iv = .int .i64 i ∧ Drawn w wr) (fun iv _ => ws.length - (intOf iv).toNat)
  case atStart => exact ⟨0, by omega, rfl, Drawn.refl _⟩
  case round =>
    obtain ⟨i, hi, rfl, hd⟩ := hrel
    by_cases hlt : i < ws.length
    · obtain ⟨b, off, rfl, hb, hcells⟩ := word_at hr (by omega)
      obtain ⟨b', off', rfl, hb', hcells'⟩ := word_at hr' (by omega)
      have k0 := (hd.cell ⟨b, off + i, none⟩).trans (hcells i hlt)
      have k1 := (hd.cell ⟨b', off' + i, none⟩).trans (hcells' i hlt)
      generalize ws.getD i 0 = x at *
      clear hcells hcells'
      go_wp2_with fail
      go_quiet (fail)
      go_wp2
      go_roundw
      case rel => exact ⟨i + 1, by omega, by go_num, hd.drewN _⟩
      case measure => simp [intOf]; omega
    · obtain rfl : i = ws.length := by omega
      go_wp2
      go_ret
      exact ⟨rfl, hd⟩
end Go.Proofs.Ytjnndbllaplkcaa
