/-
  Texts of one claim behind each other. Conditions: none of its own.
-/
import Derived.Test.YtdmfhpigchbcbaaMTopMax02
/-
  The contract of the reference's bitOf: bit i of a word. Conditions: the word is below 2 to the 64th, i is below 64.
-/
namespace Go.Proofs.Ytdmfhpigchbcbaa
open Go Go.RowKit Go.Dam
set_option linter.unusedVariables false

end Go.Proofs.Ytdmfhpigchbcbaa

/-
  A slice of words: the cell of each word, and its bound. Conditions: the slice reads as the words.
-/
namespace Go.Proofs.Ytdmfhpigchbcbaa
open Go Go.RowKit Go.Dam
set_option linter.unusedVariables false
theorem word_at {w : World} {B : Nat} {A : Option Addr} {ws : List Nat} (hr : Reads w B 1 A ws.length (ws.map wordV)) (hn : 0 < ws.length) :
    ∃ b off, A = some ⟨b, off, none⟩ ∧ b < B ∧ ∀ k, k < ws.length → w.cell? ⟨b, off + k, none⟩ = some (.int .u64 ((ws.getD k 0 : Nat) : Int)) := by
  obtain ⟨b, off, e, hb, hc⟩ := hr.addr hn
  refine ⟨b, off, e, hb, fun k hk => ?_⟩
  obtain ⟨u, hx, hu⟩ := hc k hk
  rw [hu, ← hx]
  simp [hk, wordV]
theorem word_lt {ws : List Nat} (hw : ∀ z ∈ ws, z < 18446744073709551616) (k : Nat) : ws.getD k 0 < 18446744073709551616 := by
  rw [List.getD_eq_getElem?_getD]
  rcases Nat.lt_or_ge k ws.length with h | h
  · rw [List.getElem?_eq_getElem h]; exact hw _ (List.getElem_mem _)
  · rw [List.getElem?_eq_none h]; simp

end Go.Proofs.Ytdmfhpigchbcbaa
