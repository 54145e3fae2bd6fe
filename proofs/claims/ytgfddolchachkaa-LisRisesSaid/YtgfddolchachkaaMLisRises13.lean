/-
  Contracts of slices.Backward over a slice of slices of ints: its iterator runs over the slice's elements from the last one to the first. Conditions: the elements can be read.
-/
import Derived.Shelf.Abstract
import Derived.WalkKit
import Derived.OwnWalkIn
import Derived.TacticsInMore
import Derived.LoopNIn
import Derived.LoopIn
import Derived.Maps.AppendAt
import Derived.Test.YtgfddolchachkaaMLisRises04
import Derived.Test.YtgfddolchachkaaMLisRises00
namespace Go.Dam
open Go Go.RowKit
/-- What the iterator hands over at round k of m. -/
def backEnc (vs : List Value) (m k : Nat) : Array Value := #[.int .i64 ((m - 1 - k : Nat) : Int), vs.getD (m - 1 - k) undef]
end Go.Dam
namespace Go.Proofs.Ytgfddolchachkaa
open Go Go.RowKit Go.Dam Go.Shelf Go.Proofs
set_option linter.unusedVariables false
attribute [local go_sem] Oper.semAt_some
set_option maxHeartbeats 1000000 in
theorem seqBackward (F : Fence) (n : Nat) (h5 : F.fn 89) (hro : F.round = none) (a : Option Addr) (len cap : Nat) (w : World) :
    CallsIn F n Try.prog 89 #[.slice a len cap] w fun e w' => e = .returned (.func (.func 134) #[] #[.pointer (some ⟨w.heap.size, 0, none⟩)]) ∧ w' = w.alloc (.cells #[.slice a len cap] 25) := by
  refine callsIn_of_wp Try.func89 rfl h5 ?_ hro
  simp only [Try.ntmps89, List.size_toArray, List.length_cons, List.length_nil, Nat.reduceAdd, Nat.reduceSub, Array.replicate_succ, Array.replicate_zero, List.push_toArray, List.append_toArray, List.nil_append, List.cons_append]
  gi_wp2
  go_ret
  exact ⟨rfl, rfl⟩
set_option maxRecDepth 100000 in
set_option maxHeartbeats 4000000 in
theorem seqBack_steps (F : Fence) (n : Nat) (h7 : F.fn 134) (hro : F.round = none) (hn : 1 ≤ n) (Bs b n₀ eB m cap : Nat) (A : Option Addr) (vs : List Value) (hm : m ≤ 1000000) (w : World) (hBs : Bs < n₀) (hBe : Bs ≠ eB) (hn₀ : n₀ ≤ w.heap.size) (hcap : m ≤ cap)
    (hc : w.cell? ⟨Bs, 0, none⟩ = some (.slice A m cap)) (hA : 0 < m → A = some ⟨b, 0, none⟩ ∧ b < n₀ ∧ b ≠ eB) (hcs : ∀ j, j < m → w.cell? ⟨b, j, none⟩ = some (vs.getD j undef)) :
    SeqSteps F n Try.prog 134 #[.pointer (some ⟨Bs, 0, none⟩)] (backEnc vs m) m n₀ eB w := by
  intro l J W hW hJ hY h0
  have hc1 : W.cell? ⟨Bs, 0, none⟩ = some (.slice A m cap) := (hW.cell (p := ⟨Bs, 0, none⟩) (by show Bs < _; omega)).trans hc
  have HY := Lib.hid hY
  clear hY
  refine callsIn_of_wp Try.func134 rfl h7 ?_ hro
  simp only [Try.ntmps134, List.size_toArray, List.length_cons, List.length_nil, Nat.reduceAdd, Nat.reduceSub, Array.replicate_succ, Array.replicate_zero, List.push_toArray, List.append_toArray, List.nil_append, List.cons_append]
  have hw0 : IntKind.i64.wrap ((m : Int) - 1) = (m : Int) - 1 := by rw [IntKind.wrap_i64]; omega
  gi_wp2
  gi_loopw [3] (fun i wr => ∃ (r : Int) (k : Nat), i = .int .i64 r ∧ r + 1 + (k : Int) = (m : Int) ∧ k ≤ m ∧ J k wr ∧ BelowBut n₀ eB W wr) (fun i _ => (intOf i + 1).toNat)
  case atStart => exact ⟨(m : Int) - 1, 0, rfl, by omega, by omega, h0, BelowBut.refl _ _ _⟩
  case round =>
    obtain ⟨r, k, rfl, hrk, hkm, hJk, hb⟩ := hrel
    by_cases hlt : k < m
    · obtain ⟨j, rfl⟩ : ∃ j : Nat, r = (j : Int) := ⟨r.toNat, by omega⟩
      obtain ⟨rfl, hbn, hbe⟩ := hA (by omega)
      have ej : m - 1 - k = j := by omega
      obtain ⟨fn, tmps, assign, body, hy, hR⟩ := HY.out k wr hlt hJk
      unfold backEnc at hy
      rw [ej] at hy
      have k0 : wr.cell? ⟨Bs, 0, none⟩ = some (.slice (some ⟨b, 0, none⟩) m cap) := (hb.cell (p := ⟨Bs, 0, none⟩) hBs hBe).trans hc1
      have k1 : wr.cell? ⟨b, j, none⟩ = some (vs.getD j undef) := (hb.cell (p := ⟨b, j, none⟩) hbn hbe).trans ((hW.cell (p := ⟨b, j, none⟩) (by show b < _; omega)).trans (hcs j (by omega)))
      obtain ⟨pv, hpv⟩ : ∃ x, x = vs.getD j undef := ⟨_, rfl⟩
      rw [← hpv] at k1 hy
      clear hpv ej
      have jm : (j : Int) < (m : Int) := by omega
      have jm2 : j < m := by omega
      have w1 : IntKind.i64.wrap ((j : Int) - 1) = (j : Int) - 1 := by rw [IntKind.wrap_i64]; omega
      gi_wp2
      refine hR.mono ?_
      rintro e W3 ⟨rfl, hJ3, hk3⟩
      gi_wp2
      go_roundw
      case rel => exact ⟨(j : Int) - 1, k + 1, rfl, by omega, by omega, hJ3, hb.trans hk3⟩
      case measure => simp [intOf] <;> omega
    · obtain rfl : k = m := by omega
      obtain rfl : r = -1 := by omega
      gi_wp2
      go_end0
      exact ⟨⟨_, rfl⟩, hJk⟩
end Go.Proofs.Ytgfddolchachkaa
