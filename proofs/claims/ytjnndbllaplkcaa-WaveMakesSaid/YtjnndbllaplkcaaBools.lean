/-
  Contract of the reference's bools: the bits of a row as a slice of its own. Conditions: the row can be read as data and is well formed.
-/
import Derived.Test.YtjnndbllaplkcaaBitsMay
namespace Go.Proofs.Ytjnndbllaplkcaa
open Go Go.RowKit Go.Dam
set_option linter.unusedVariables false

theorem el_bool : El Try.prog 58 4 (.bool false) 1 1 := ⟨Try.underlying58, by kernel_rfl, rfl, by decide⟩
/-- The bits of a row. -/
def rowBits (ws : List Nat) (n : Nat) : List Bool := (List.range n).map (bitAt ws)
theorem rowBits_succ (ws : List Nat) (n : Nat) : rowBits ws (n + 1) = rowBits ws n ++ [bitAt ws n] := by
  unfold rowBits; rw [List.range_succ, List.map_append]; rfl
theorem rowBits_length (ws : List Nat) (n : Nat) : (rowBits ws n).length = n := by unfold rowBits; simp
theorem rowBits_0 (ws : List Nat) : rowBits ws 0 = [] := rfl
theorem rowBits_get (ws : List Nat) (n k : Nat) (hk : k < n) : (rowBits ws n).getD k false = bitAt ws k := by
  unfold rowBits; simp [hk]
attribute [irreducible] rowBits
/-- It returns a slice of its own that reads as the bits. -/
def GivesBools (l : List Bool) (w : World) (e : Ending) (w' : World) : Prop := ∃ v, e = .returned v ∧ IsBools w' w'.heap.size v l ∧ Below w.heap.size w w'
set_option maxHeartbeats 400000 in
theorem bools_any (v : Value) (n : Nat) (ws : List Nat) (w : World) (B : Nat) (hB : B ≤ w.heap.size) (h : IsBits w B v n ws) (hm : mayBits n ws = true) :
    Calls Try.prog 93 #[v] w (GivesBools (rowBits ws n) w) := by
  obtain ⟨h3, h4, h5⟩ := may_facts hm
  obtain ⟨s, rfl, _, A, c, rfl, hc, hcm, hl, hr, hw⟩ := h
  clear hm
  go_enter Try.func93, Try.ntmps93
  go_wp2_with fail
  go_loopw [3, 4] (fun ov iv wr => ∃ i : Nat, i ≤ n ∧ iv = .int .i64 i ∧ wr.ownsRow (w.heap.size + 1) 4 1 ov i ((rowBits ws i).map Value.bool) ∧ Below (w.heap.size + 1) (w.alloc (.cells #[.int .i64 n, .slice A ws.length c] 32)) wr) (fun _ iv _ => n - (intOf iv).toNat)
  case atStart => exact ⟨0, by omega, rfl, by rw [rowBits_0]; exact World.ownsRow_nil _ _ _ _, Below.refl _ _⟩
  case round =>
    obtain ⟨i, hi, rfl, hown, hbel⟩ := hrel
    have hz : w.heap.size + 1 ≤ wr.heap.size := by have := hbel.size; simpa using this
    have k0 : wr.cell? ⟨w.heap.size, 0, none⟩ = some (.int .i64 n) := (hbel.cell (p := ⟨w.heap.size, 0, none⟩) (by simp)).trans (by simp)
    have k1 : wr.cell? ⟨w.heap.size, 1, none⟩ = some (.slice A ws.length c) := (hbel.cell (p := ⟨w.heap.size, 1, none⟩) (by simp)).trans (by simp)
    by_cases hlt : i < n
    · obtain ⟨b, off, rfl, hbB, hcells⟩ := word_at hr (by omega)
      have hcell := hcells (i / 64) (by omega)
      have hx := word_lt hw (i / 64)
      have hbit := bit_of_word ws i
      generalize ws.getD (i / 64) 0 = x at *
      have k2 : wr.cell? ⟨b, off + i / 64, none⟩ = some (.int .u64 x) := (hbel.cell (p := ⟨b, off + i / 64, none⟩) (by simp; omega)).trans ((World.cell?_alloc_past _ b _ (by omega)).trans hcell)
      have hil : i / 64 < ws.length := by omega
      have HO := Lib.hid hown
      have HB := Lib.hid hbel
      have HX := Lib.hid hbit
      clear hown hbel hbit hcells hcell h5
      go_wp2_with (first
        | (go_at_call 99; refine (bitOf_any x (i % 64) _ hx (by omega)).mono ?_; rintro e w' ⟨rfl, rfl⟩)
        | (at_builtin; refine wpList_push el_bool rfl (.tmp 11) (.tmp 21) rfl (w.heap.size + 1) _ i _ (HO.out.alloc _) rfl wr.heap.size 1 _ rfl (by simp; rfl) rfl (by omega) (by omega) (by simp; omega) ?_; intro v' w1 hown1 hg1))
      go_roundw
      case rel => exact ⟨i + 1, by omega, by go_num, by rw [rowBits_succ, List.map_append, ← HX.out]; exact hown1, below_push (HB.out.alloc hz _) (HO.out.alloc _) (by omega) (by simp; omega) hg1⟩
      case measure => simp [intOf]; omega
    · obtain rfl : i = n := by omega
      have HO := Lib.hid hown
      have HB := Lib.hid hbel
      clear hown hbel h5
      go_wp2
      go_ret
      exact ⟨_, rfl, own_bools HO.out (by rw [rowBits_length]; omega), ((Below.refl _ _).alloc (Nat.le_refl _) _).trans (HB.out.mono (by omega))⟩
end Go.Proofs.Ytjnndbllaplkcaa
