/-
  Contract of the reference's BitsMake: the words of a list of bits, or that it is too long. Conditions: the list can be read as data.
-/
import Derived.Test.YtdmfhpigchbcbaaMTopMax42
namespace Go.Proofs.Ytdmfhpigchbcbaa
open Go Go.RowKit Go.Dam
set_option linter.unusedVariables false

/-- What stands while the reference makes its words: the result's box, the row's own box with its length and its slice, and the slice's words. -/
structure Making (W0 : World) (n : Int) (l : List Bool) (i : Nat) (w : World) : Prop where
  s : ∃ sv m, m = (i + 63) / 64 ∧ Blk w (W0.heap.size + 1) 73 #[.int .i64 n, sv] ∧ w.ownsRow (W0.heap.size + 1 + 1) 97 1 sv m ((packW l m i).map wordV)
  r : Blk w W0.heap.size 73 #[.int .i64 0, .slice none 0 0]
  b : Below W0.heap.size W0 w
/-- The bit is added to the last word. -/
theorem step_b {W0 w2 : World} {n : Int} {l : List Bool} {i M j g cap : Nat}
    (hS : Blk w2 (W0.heap.size + 1) 73 #[.int .i64 n, .slice (some ⟨g, 0, none⟩) M cap]) (hO : w2.ownsRow (W0.heap.size + 1 + 1) 97 1 (.slice (some ⟨g, 0, none⟩) M cap) M ((packW l M i).map wordV))
    (hR : Blk w2 W0.heap.size 73 #[.int .i64 0, .slice none 0 0]) (hB : Below W0.heap.size W0 w2) (hM : M = (i + 1 + 63) / 64) (hj : j + 1 = M) (hij : i / 64 = j) (hb : l.getD i false = true) :
    ∃ x : Nat, x < 18446744073709551616 ∧ x + 2 ^ (i % 64) < 18446744073709551616 ∧ IntKind.u64.wrap ((x : Int) + IntKind.u64.wrap (2 ^ (i % 64))) = ((x + 2 ^ (i % 64) : Nat) : Int) ∧
      w2.cell? ⟨W0.heap.size + 1, 1, none⟩ = some (.slice (some ⟨g, 0, none⟩) M cap) ∧ w2.cell? ⟨g, j, none⟩ = some (.int .u64 x) ∧ w2.frozen? ⟨g, j, none⟩ = false ∧
      Making W0 n l (i + 1) (w2.setCell ⟨g, j, none⟩ (.int .u64 ((x + 2 ^ (i % 64) : Nat) : Int))).drew := by
  have hl := packW_length l M i
  have hcl := packW_clear l M i i (by omega) (Nat.le_refl _)
  have hxl : (packW l M i).getD (i / 64) 0 < 18446744073709551616 := word_lt (packW_lt l M i (by omega)) _
  have hal := add_pow_lt _ _ hxl (by omega) hcl
  have hyes := packW_yes (W := M) hb
  rw [hij] at hxl hcl hal hyes
  have hgl := hO.lt g rfl
  refine ⟨(packW l M i).getD j 0, hxl, hal, ?_, by rw [hS.cell]; rfl, ?_, hO.frozenAt j, ⟨⟨.slice (some ⟨g, 0, none⟩) M cap, M, hM, Blk.drew (hS.far (by simp; omega) _), ?_⟩, Blk.drew (hR.far (by simp; omega) _), (hB.setCell (by simp; omega) _).drew⟩⟩
  · rw [pow_u64 _ (by omega), wrap_u64]
    generalize (packW l M i).getD j 0 = x at *
    generalize 2 ^ (i % 64) = q at *
    omega
  · rw [hO.cellAt j (by omega)]
    simp [hl, wordV, show j < M from by omega]
  · have := (hO.stored j (.int .u64 (((packW l M i).getD j 0 + 2 ^ (i % 64) : Nat) : Int))).1
    rw [hyes, List.map_set]
    exact this.drew
theorem last_word (l : List Bool) (m i : Nat) : ((packW l m i).map wordV ++ [.int .u64 0])[m]? = some (.int .u64 0) := by
  have := packW_length l m i
  rw [List.getElem?_append_right (by simp [this])]; simp [this]
end Go.Proofs.Ytdmfhpigchbcbaa
