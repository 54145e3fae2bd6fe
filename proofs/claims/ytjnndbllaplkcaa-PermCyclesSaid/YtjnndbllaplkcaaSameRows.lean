/-
  Contract of the law's own helper sameRows: two slices of slices that read alike are found alike. Conditions: both read as the same lists.
-/
import Derived.Test.YtjnndbllaplkcaaElRows
namespace Go.Proofs.Ytjnndbllaplkcaa
open Go Go.RowKit Go.Dam
set_option linter.unusedVariables false
set_option maxHeartbeats 400000 in
theorem sameRows_any (v u : Value) (ls : List (List Int)) (w : World) (B : Nat) (h : IsRows w B v ls) (h' : IsRows w B u ls) :
    Calls Try.prog 33 #[v, u] w fun e w' => e = .returned (.bool true) ∧ Drawn w w' := by
  obtain ⟨A, c, vs, rfl, hc, hm, hn, hl, hr, hi⟩ := h
  obtain ⟨A', c', us, rfl, hc', hm', hn', hl', hr', hi'⟩ := h'
  have HI := Lib.hid hi
  have HI' := Lib.hid hi'
  have HL := Lib.hid hl
  have HL' := Lib.hid hl'
  clear hi hi' hl hl'
  go_enter Try.func33, Try.ntmps33
  go_wp2_with fail
  go_loopw [5] (fun iv wr => ∃ i : Nat, i ≤ ls.length ∧ iv = .int .i64 i ∧ Drawn w wr) (fun iv _ => ls.length - (intOf iv).toNat)
  case atStart => exact ⟨0, by omega, rfl, Drawn.refl _⟩
  case round =>
    obtain ⟨i, hi, rfl, hd⟩ := hrel
    by_cases hlt : i < ls.length
    · obtain ⟨b, off, rfl, hb, hcells⟩ := IsRows.cells (c := c) HL.out hr (by omega)
      obtain ⟨b', off', rfl, hb', hcells'⟩ := IsRows.cells (c := c') HL'.out hr' (by omega)
      have k0 := (hd.cell ⟨b, off + i, none⟩).trans (hcells i hlt)
      have k1 := (hd.cell ⟨b', off' + i, none⟩).trans (hcells' i hlt)
      have HC := Lib.hid fun n => sameInts_any _ _ _ (wr.drewN n) B ((HI.out i hlt).below ((hd.drewN n).below B)) ((HI'.out i hlt).below ((hd.drewN n).below B))
      have HD := Lib.hid hd
      generalize vs.getD i undef = x at *
      generalize us.getD i undef = y at *
      clear hcells hcells' hd
      go_wp2_with fail
      go_quiet ((go_at_call 28; exact quiet_of_drawn (HC.out _)))
      go_wp2
      go_roundw
      case rel => exact ⟨i + 1, by omega, by go_num, HD.out.drewN _⟩
      case measure => simp [intOf]; omega
    · obtain rfl : i = ls.length := by omega
      go_wp2
      go_ret
      exact ⟨rfl, hd⟩
end Go.Proofs.Ytjnndbllaplkcaa
