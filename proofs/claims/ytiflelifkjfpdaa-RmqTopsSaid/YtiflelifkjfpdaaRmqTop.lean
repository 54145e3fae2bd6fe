/-
  Contracts of rmq.top and the reference's topOf. Conditions: the list can be read as data; the places are within it.
-/
import Derived.Test.YtiflelifkjfpdaaRmqPlain
import Derived.Test.YtiflelifkjfpdaaSameInts
import Derived.Test.YtiflelifkjfpdaaFlat
namespace Go.Proofs.Ytiflelifkjfpdaa
open Go Go.RowKit Go.Dam
set_option linter.unusedVariables false
set_option maxHeartbeats 400000 in
theorem rmqtop_any (v : Value) (l : List Int) (a b r : Nat) (w : World) (B : Nat) (h : IsInts .i64 w B v l) (ha : a < l.length) (hb : b < l.length) (hr : (l.getD a 0 < l.getD b 0 ∧ r = b) ∨ (l.getD b 0 ≤ l.getD a 0 ∧ r = a)) :
    Calls Try.prog 40 #[v, .int .i64 a, .int .i64 b] w fun e w' => e = .returned (.int .i64 r) ∧ Drawn w w' := by
  obtain ⟨A, c, rfl, hc, hm, hn, hrd, hw⟩ := h
  obtain ⟨bk, off, rfl, hbk, hcells⟩ := ints_cells hrd (by omega)
  have k0 := hcells a ha
  have k1 := hcells b hb
  generalize l.getD a 0 = x at *
  generalize l.getD b 0 = y at *
  clear hcells hrd hw
  rcases hr with ⟨h1, rfl⟩ | ⟨h1, rfl⟩
  · go_enter Try.func40, Try.ntmps40
    go_wp2_with fail
    go_quiet (fail)
    go_wp2
    go_ret
    exact ⟨rfl, (Drawn.refl _).drewN _⟩
  · have t0 : decide (x < y) = false := by simp; omega
    go_enter Try.func40, Try.ntmps40
    go_wp2_with fail
    go_quiet (fail)
    go_wp2
    go_ret
    exact ⟨rfl, (Drawn.refl _).drewN _⟩
set_option maxHeartbeats 400000 in
theorem topOf_any (v : Value) (l : List Int) (a b : Nat) (w : World) (B : Nat) (h : IsInts .i64 w B v l) (ha : a ≤ b) (hb : b < l.length) :
    Calls Try.prog 41 #[v, .int .i64 a, .int .i64 b] w fun e w' => e = .returned (.int .i64 (topF (fun k => l.getD k 0) a (b - a) : Nat)) ∧ Drawn w w' := by
  obtain ⟨A, c, rfl, hc, hm, hn, hrd, hw⟩ := h
  obtain ⟨bk, off, rfl, hbk, hcells⟩ := ints_cells hrd (by omega)
  have HC := Lib.hid hcells
  clear hcells hrd hw
  go_enter Try.func41, Try.ntmps41
  go_wp2_with fail
  go_loopw [7, 8] (fun tv iv wr => ∃ i t : Nat, a ≤ i ∧ i ≤ b + 1 ∧ iv = .int .i64 i ∧ tv = .int .i64 t ∧ ((i = a ∧ t = a) ∨ (a < i ∧ t = topF (fun k => l.getD k 0) a (i - a - 1))) ∧ Drawn w wr) (fun _ iv _ => b + 1 - (intOf iv).toNat)
  case atStart => exact ⟨a, a, by omega, by omega, rfl, rfl, .inl ⟨rfl, rfl⟩, Drawn.refl _⟩
  case round =>
    obtain ⟨i, t, h1, h2, rfl, rfl, ht, hd⟩ := hrel
    have htl : a ≤ t ∧ t < l.length ∧ t ≤ i := by
      rcases ht with ⟨rfl, rfl⟩ | ⟨h3, rfl⟩
      · omega
      · have := topF_bd (fun k => l.getD k 0) a (i - a - 1); omega
    by_cases hlt : i ≤ b
    · have k0 := (hd.cell ⟨bk, off + i, none⟩).trans (HC.out i (by omega))
      have k1 := (hd.cell ⟨bk, off + t, none⟩).trans (HC.out t htl.2.1)
      by_cases hgt : l.getD t 0 < l.getD i 0
      · have HN : Hid (a < i + 1 ∧ i = topF (fun k => l.getD k 0) a (i + 1 - a - 1)) := Lib.hid (by
          refine ⟨by omega, ?_⟩
          rcases ht with ⟨h5, h6⟩ | ⟨h3, rfl⟩
          · rw [show i + 1 - a - 1 = 0 from by omega, topF_0]; omega
          · obtain ⟨d, hd⟩ : ∃ d, i = a + d + 1 := ⟨i - a - 1, by omega⟩
            subst hd
            rw [show a + d + 1 - a - 1 = d from by omega] at hgt
            rw [show a + d + 1 + 1 - a - 1 = d + 1 from by omega, topF_yes (f := fun k => l.getD k 0) hgt])
        have t0 : decide (l.getD t 0 < l.getD i 0) = true := by simpa using hgt
        generalize l.getD i 0 = x at *
        generalize l.getD t 0 = y at *
        clear ht
        go_wp2_with fail
        go_quiet (fail)
        go_wp2
        go_roundw
        case rel => exact ⟨i + 1, i, by omega, by omega, by go_num, rfl, .inr HN.out, hd.drewN _⟩
        case measure => simp [intOf]; omega
      · have HN : Hid (a < i + 1 ∧ t = topF (fun k => l.getD k 0) a (i + 1 - a - 1)) := Lib.hid (by
          refine ⟨by omega, ?_⟩
          rcases ht with ⟨h5, h6⟩ | ⟨h3, rfl⟩
          · rw [show i + 1 - a - 1 = 0 from by omega, topF_0]; omega
          · obtain ⟨d, hd⟩ : ∃ d, i = a + d + 1 := ⟨i - a - 1, by omega⟩
            subst hd
            rw [show a + d + 1 - a - 1 = d from by omega] at hgt ⊢
            rw [show a + d + 1 + 1 - a - 1 = d + 1 from by omega, topF_no (f := fun k => l.getD k 0) hgt])
        have t0 : decide (l.getD t 0 < l.getD i 0) = false := by rw [decide_eq_false_iff_not]; exact hgt
        generalize l.getD i 0 = x at *
        generalize l.getD t 0 = y at *
        clear ht
        go_wp2_with fail
        go_quiet (fail)
        go_wp2
        go_roundw
        case rel => exact ⟨i + 1, t, by omega, by omega, by go_num, rfl, .inr HN.out, hd.drewN _⟩
        case measure => simp [intOf]; omega
    · obtain rfl : i = b + 1 := by omega
      have HE : Hid (t = topF (fun k => l.getD k 0) a (b - a)) := Lib.hid (by
        rcases ht with ⟨h3, _⟩ | ⟨_, rfl⟩
        · omega
        · congr 1; omega)
      clear ht
      go_wp2
      go_ret
      exact ⟨by rw [← HE.out]; rfl, hd⟩
end Go.Proofs.Ytiflelifkjfpdaa
