/-
  Contract of the law's own helper sameBytes: two slices of bytes that read alike are found alike; and the form of a result that is bytes with a code. Conditions: both read as the same bytes.
-/
import Derived.Test.YtjniiiimkejkiaaBase
namespace Go.Dam
open Go Go.RowKit
/-- Bytes and a code are returned, the bytes' cells below the world's end; no old memory is changed. -/
def GivesBytes (l : List Int) (c : Int) (w : World) (e : Ending) (w' : World) : Prop := ∃ v, e = .returned (.tuple #[v, .int .i64 c]) ∧ IsInts .u8 w' w'.heap.size v l ∧ Below w.heap.size w w'
theorem isBytes_nil (k : IntKind) (w : World) (B : Nat) : IsInts k w B (.slice none 0 0) [] :=
  ⟨none, 0, rfl, by simp, by unfold maxLen; omega, by simp, ⟨by simp, fun h => absurd h (by simp)⟩, fun z hz => by cases hz⟩
theorem IsInts.openB {k : IntKind} {w : World} {B : Nat} {v : Value} {l : List Int} (h : IsInts k w B v l) {n : Nat} (hn : l.length = n) : ∃ A c, v = .slice A n c ∧ n ≤ c ∧ c ≤ maxLen ∧ Reads w B 1 A l.length (l.map (Value.int k)) := by
  subst hn
  obtain ⟨A, c, rfl, h1, h2, _, h3, _⟩ := h
  exact ⟨A, c, rfl, h1, h2, h3⟩
end Go.Dam
namespace Go.Proofs.Ytjniiiimkejkiaa
open Go Go.RowKit Go.Dam
set_option linter.unusedVariables false
set_option maxHeartbeats 400000 in
theorem sameBytes_any (v u : Value) (l : List Int) (w : World) (B : Nat) (h : IsInts .u8 w B v l) (h' : IsInts .u8 w B u l) :
    Calls Try.prog 31 #[v, u] w fun e w' => e = .returned (.bool true) ∧ Drawn w w' := by
  obtain ⟨A, c, rfl, hc, hm, hl, hr, hw⟩ := h
  obtain ⟨A', c', rfl, hc', hm', _, hr', _⟩ := h'
  go_enter Try.func31, Try.ntmps31
  go_wp2_with fail
  go_loopw [5] (fun iv wr => ∃ i : Nat, i ≤ l.length ∧ iv = .int .i64 i ∧ Drawn w wr) (fun iv _ => l.length - (intOf iv).toNat)
  case atStart => exact ⟨0, by omega, rfl, Drawn.refl _⟩
  case round =>
    obtain ⟨i, hi, rfl, hd⟩ := hrel
    by_cases hlt : i < l.length
    · obtain ⟨b, off, rfl, hb, hcells⟩ := ints_cells hr (by omega)
      obtain ⟨b', off', rfl, hb', hcells'⟩ := ints_cells hr' (by omega)
      have k0 := (hd.cell ⟨b, off + i, none⟩).trans (hcells i hlt)
      have k1 := (hd.cell ⟨b', off' + i, none⟩).trans (hcells' i hlt)
      generalize l.getD i 0 = x at *
      clear hcells hcells'
      go_wp2_with fail
      go_quiet (fail)
      go_wp2
      go_roundw
      case rel => exact ⟨i + 1, by omega, by go_num, hd.drewN _⟩
      case measure => simp [intOf]; omega
    · obtain rfl : i = l.length := by omega
      go_wp2
      go_ret
      exact ⟨rfl, hd⟩
end Go.Proofs.Ytjniiiimkejkiaa
