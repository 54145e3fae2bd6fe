/-
  Contract of the law's own helper sameInts: two slices that read alike are found alike; and the form of a result that is a list of ints with a code. Conditions: both read as the same ints.
-/
import Derived.Test.YthiccmncdmohbaaMHullInsides03
set_option linter.unusedVariables false
set_option linter.unusedSimpArgs false
namespace Go.Dam
open Go Go.RowKit
/-- A list of ints and a code are returned, the list's cells below the world's end; no old memory is changed. -/
def GivesInts (l : List Int) (c : Int) (w : World) (e : Ending) (w' : World) : Prop := ∃ v, e = .returned (.tuple #[v, .int .i64 c]) ∧ IsInts .i64 w' w'.heap.size v l ∧ Below w.heap.size w w'
theorem isInts_nil (k : IntKind) (w : World) (B : Nat) : IsInts k w B (.slice none 0 0) [] :=
  ⟨none, 0, rfl, by simp, by unfold maxLen; omega, by simp, ⟨by simp, fun h => absurd h (by simp)⟩, fun z hz => by cases hz⟩
theorem IsInts.open_ {k : IntKind} {w : World} {B : Nat} {v : Value} {l : List Int} (h : IsInts k w B v l) {n : Nat} (hn : l.length = n) : ∃ A c, v = .slice A n c ∧ n ≤ c ∧ c ≤ maxLen ∧ Reads w B 1 A l.length (l.map (Value.int k)) := by
  subst hn
  obtain ⟨A, c, rfl, h1, h2, _, h3, _⟩ := h
  exact ⟨A, c, rfl, h1, h2, h3⟩
theorem int_wf {z : Int} (h : I64 z) : (Lit.int .i64 z).wf = true := by
  unfold I64 at h
  simpa [Lit.wf, IntKind.min, IntKind.max, IntKind.signed, IntKind.bits] using h
/-- The numbers below n with the mark. -/
def placesOf (p : Nat → Bool) : Nat → List Int
  | 0 => []
  | n + 1 => if p n = true then placesOf p n ++ [(n : Int)] else placesOf p n
theorem placesOf_yes {p : Nat → Bool} {n : Nat} (h : p n = true) : placesOf p (n + 1) = placesOf p n ++ [(n : Int)] := by rw [placesOf, if_pos h]
theorem placesOf_no {p : Nat → Bool} {n : Nat} (h : p n = false) : placesOf p (n + 1) = placesOf p n := by rw [placesOf, if_neg (by simp [h])]
theorem placesOf_len (p : Nat → Bool) : ∀ n, (placesOf p n).length ≤ n
  | 0 => by simp [placesOf]
  | n + 1 => by
    have := placesOf_len p n
    rw [placesOf]; split
    · simp; omega
    · omega
theorem placesOf_mem (p : Nat → Bool) : ∀ n z, z ∈ placesOf p n → ∃ i : Nat, z = i ∧ i < n ∧ p i = true
  | 0, z, hz => by simp [placesOf] at hz
  | n + 1, z, hz => by
    rw [placesOf] at hz; split at hz
    · rename_i h
      rcases List.mem_append.1 hz with h1 | h1
      · obtain ⟨i, rfl, hi, hp⟩ := placesOf_mem p n z h1
        exact ⟨i, rfl, by omega, hp⟩
      · simp at h1; exact ⟨n, h1, by omega, h⟩
    · obtain ⟨i, rfl, hi, hp⟩ := placesOf_mem p n z hz
      exact ⟨i, rfl, by omega, hp⟩
theorem placesOf_0 (p : Nat → Bool) : placesOf p 0 = [] := rfl
theorem placesOf_wf {p : Nat → Bool} {n : Nat} (hn : n ≤ 140737488351232) : ∀ z ∈ placesOf p n, (Lit.int .i64 z).wf = true := by
  intro z hz
  obtain ⟨i, rfl, hi, _⟩ := placesOf_mem p n z hz
  exact int_wf (by unfold I64; omega)
attribute [irreducible] placesOf
end Go.Dam
namespace Go.Proofs.Ythiccmncdmohbaa
open Go Go.RowKit Go.Dam
set_option linter.unusedVariables false
theorem el_int : El Try.prog 22 3 (.int .i64 0) 1 8 := ⟨Try.underlying22, by kernel_rfl, rfl, by decide⟩
set_option maxHeartbeats 400000 in
theorem sameInts_any (v u : Value) (l : List Int) (w : World) (B : Nat) (h : IsInts .i64 w B v l) (h' : IsInts .i64 w B u l) :
    Calls Try.prog 15 #[v, u] w fun e w' => e = .returned (.bool true) ∧ Drawn w w' := by
  obtain ⟨A, c, rfl, hc, hm, hl, hr, hw⟩ := h
  obtain ⟨A', c', rfl, hc', hm', _, hr', _⟩ := h'
  go_enter Try.func15, Try.ntmps15
  go_wp2_with fail
  go_loopw [5] (fun iv wr => ∃ i : Nat, i ≤ l.length ∧ iv = .int .i64 i ∧ Drawn w wr) (fun iv _ => l.length - (intOf iv).toNat)
  case atStart => exact ⟨0, by omega, rfl, Drawn.refl _⟩
  case round =>
    obtain ⟨i, hi, rfl, hd⟩ := hrel
    by_cases hlt : i < l.length
    · obtain ⟨b, off, rfl, hb, hcells⟩ := ints_cells hr (by omega)
      obtain ⟨b', off', rfl, hb', hcells'⟩ := ints_cells hr' (by omega)
      have k0 := (hd.cell ⟨b, off + i, none⟩).trans (hcells i hlt)
      have k1 := (hd.cell ⟨b', off' + i, none⟩).trans (hcells' i hlt)
      generalize l.getD i 0 = x at *
      clear hcells hcells'
      go_wp2_with fail
      go_quiet (fail)
      go_wp2
      go_roundw
      case rel => exact ⟨i + 1, by omega, by go_num, hd.drewN _⟩
      case measure => simp [intOf]; omega
    · obtain rfl : i = l.length := by omega
      go_wp2
      go_ret
      exact ⟨rfl, hd⟩
end Go.Proofs.Ythiccmncdmohbaa
