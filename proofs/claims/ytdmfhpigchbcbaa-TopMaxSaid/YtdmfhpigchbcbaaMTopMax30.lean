/-
  Contracts of wave.fits and wave.Rank. Conditions: the wave can be read as data.
-/
import Derived.Test.YtdmfhpigchbcbaaMTopMax25
import Derived.Test.YtdmfhpigchbcbaaMTopMax29
namespace Go.Dam
open Go Go.RowKit
theorem box1' {w w1 : World} {a : Value} {T : TypeId} (hb : Below (w.alloc (.cells #[a] T)).heap.size (w.alloc (.cells #[a] T)) w1) : w1.cell? ⟨w.heap.size, 0, none⟩ = some a :=
  (hb.cell (p := ⟨w.heap.size, 0, none⟩) (by simp)).trans (by simp)
end Go.Dam
namespace Go.Proofs.Ytdmfhpigchbcbaa
open Go Go.RowKit Go.Dam
set_option linter.unusedVariables false
/-- Has a number no more bits than there are levels? -/
def fitsW (m : Nat) (x : Int) (r : Bool) : Prop := (x < 0 ∧ r = false) ∨ ∃ y : Nat, x = y ∧ y < 9223372036854775808 ∧ r = decide (y / 2 ^ m = 0)
theorem fitsW.ex (m : Nat) {x : Int} (h : I64 x) : ∃ r, fitsW m x r := by
  unfold I64 at h
  by_cases hx : x < 0
  · exact ⟨_, .inl ⟨hx, rfl⟩⟩
  · exact ⟨_, .inr ⟨x.toNat, by omega, by omega, rfl⟩⟩
set_option maxRecDepth 100000 in
set_option maxHeartbeats 400000 in
theorem waveFits_any (v : Value) (rs : List (Int × List Nat)) (x : Int) (r : Bool) (w : World) (B : Nat) (hB : B ≤ w.heap.size) (h : IsWave w B v rs) (h64 : I64 x) (hl : rs.length ≤ 21) (hR : fitsW rs.length x r) :
    Calls Try.prog 86 #[v, .int .i64 x] w fun e w' => e = .returned (.bool r) ∧ Below w.heap.size w w' := by
  unfold I64 at h64
  obtain ⟨s, rfl, h⟩ := h
  obtain ⟨A, c, vs, rfl, hc, hm, hn, _, _⟩ := h
  rcases hR with ⟨hx, rfl⟩ | ⟨y, rfl, hy, hr⟩
  · go_enter Try.func86, Try.ntmps86
    go_wp2_with fail
    go_ret
    exact ⟨rfl, (Below.refl _ _).alloc (Nat.le_refl _) _⟩
  · have e : ((y : Int) / 2 ^ rs.length == 0) = r := by
      rw [hr]
      have : (y : Int) / 2 ^ rs.length = ((y / 2 ^ rs.length : Nat) : Int) := by simp
      rw [this]
      generalize y / 2 ^ rs.length = q
      by_cases h : q = 0
      · subst h; rfl
      · simp [h]
    have HE := Lib.hid hr
    clear hr
    cases r
    all_goals
      go_enter Try.func86, Try.ntmps86
      go_wp2_with fail
      go_ret
      exact ⟨rfl, (Below.refl _ _).alloc (Nat.le_refl _) _⟩
end Go.Proofs.Ytdmfhpigchbcbaa
