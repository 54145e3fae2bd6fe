/-
  Contract of the law's samePoints: two slices of the same points. Conditions: both can be read as data.
-/
import Derived.Test.YtaipnjoeejgnnaaSameBytes
import Derived.Test.YtaipnjoeejgnnaaFlat
namespace Go.Proofs.Ytaipnjoeejgnnaa
open Go Go.RowKit Go.Dam
set_option linter.unusedVariables false
set_option maxRecDepth 100000 in
set_option maxHeartbeats 1000000 in
theorem samePoints_any (u v : Value) (n : Nat) (l : List Int) (w : World) (B : Nat) (h : IsFlat 3 w B u n l) (h' : IsFlat 3 w B v n l) :
    Calls Try.prog 17 #[u, v] w fun e w' => e = .returned (.bool true) ∧ Drawn w w' := by
  obtain ⟨A, c, rfl, hc, hm, hn, hl, hr, hw⟩ := h
  obtain ⟨A', c', rfl, hc', hm', hn', hl', hr', hw'⟩ := h'
  clear hw hw' hn'
  go_enter Try.func17, Try.ntmps17
  go_wp2_with fail
  go_loopw [5] (fun iv wr => ∃ i : Nat, i ≤ n ∧ iv = .int .i64 i ∧ Drawn w wr) (fun iv _ => n - (intOf iv).toNat)
  case atStart => exact ⟨0, by omega, rfl, .refl _⟩
  case round =>
    obtain ⟨i, hi, rfl, hd⟩ := hrel
    by_cases hlt : i < n
    · obtain ⟨b, off, rfl, hb, hcells⟩ := flat_cells hr hl (by omega) (by omega)
      obtain ⟨b', off', rfl, hb', hcells'⟩ := flat_cells hr' hl' (by omega) (by omega)
      have c0 := (hd.cell ⟨b, off + i * 3, none⟩).trans (hcells (i * 3) (by omega))
      have c1 := (hd.cell ⟨b, off + i * 3 + 1, none⟩).trans (hcells (i * 3 + 1) (by omega))
      have c2 := (hd.cell ⟨b, off + i * 3 + 2, none⟩).trans (hcells (i * 3 + 2) (by omega))
      have c0' := (hd.cell ⟨b', off' + i * 3, none⟩).trans (hcells' (i * 3) (by omega))
      have c1' := (hd.cell ⟨b', off' + i * 3 + 1, none⟩).trans (hcells' (i * 3 + 1) (by omega))
      have c2' := (hd.cell ⟨b', off' + i * 3 + 2, none⟩).trans (hcells' (i * 3 + 2) (by omega))
      generalize l.getD (i * 3) 0 = x0 at *
      generalize l.getD (i * 3 + 1) 0 = x1 at *
      generalize l.getD (i * 3 + 2) 0 = x2 at *
      clear hcells hcells' hr hr'
      have HD := Lib.hid hd
      clear hd
      go_wp2_with fail
      go_quiet (fail)
      go_wp2
      go_roundw
      case rel => exact ⟨i + 1, by omega, by go_num, HD.out.drewN _⟩
      case measure => simp [intOf]; omega
    · obtain rfl : i = n := by omega
      clear hr hr'
      go_wp2_with fail
      go_ret
      exact ⟨rfl, hd⟩
end Go.Proofs.Ytaipnjoeejgnnaa
