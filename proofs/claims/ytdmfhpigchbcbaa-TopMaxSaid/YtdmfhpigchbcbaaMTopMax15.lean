/-
  Contracts of the library's slices.Equal at []int, of the closure of rmq.Top, and of slices.EqualFunc at [][]int with it. Conditions: the lists can be read as data.
-/
import Derived.Test.YtdmfhpigchbcbaaMTopMax12
import Derived.Test.YtdmfhpigchbcbaaMTopMax06
namespace Go.Dam
/-- Are two lists one? -/
def eqL (l m : List Int) : Bool := decide (l = m)
theorem eqL_yes {l m : List Int} (h : eqL l m = true) : l = m := of_decide_eq_true h
theorem eqL_no {l m : List Int} (h : eqL l m = false) : l ≠ m := of_decide_eq_false h
theorem eqL_of {l m : List Int} (h : l = m) : eqL l m = true := decide_eq_true h
theorem eqL_not {l m : List Int} (h : l ≠ m) : eqL l m = false := decide_eq_false h
theorem eqL_len {l m : List Int} (h : l.length ≠ m.length) : eqL l m = false := eqL_not fun e => h (by rw [e])
theorem eqL_at {l m : List Int} {i : Nat} (h : l.getD i 0 ≠ m.getD i 0) : eqL l m = false := eqL_not fun e => h (by rw [e])
theorem eqL_all {l m : List Int} (h : l.length = m.length) (g : ∀ i, i < l.length → l.getD i 0 = m.getD i 0) : eqL l m = true := by
  refine eqL_of (List.ext_getElem h fun i h1 h2 => ?_)
  have := g i h1
  simpa [h1, h2] using this
attribute [irreducible] eqL
/-- Are two lists of lists one? -/
def eqR (l m : List (List Int)) : Bool := decide (l = m)
theorem eqR_yes {l m : List (List Int)} (h : eqR l m = true) : l = m := of_decide_eq_true h
theorem eqR_of {l m : List (List Int)} (h : l = m) : eqR l m = true := decide_eq_true h
theorem eqR_not {l m : List (List Int)} (h : l ≠ m) : eqR l m = false := decide_eq_false h
theorem eqR_len {l m : List (List Int)} (h : l.length ≠ m.length) : eqR l m = false := eqR_not fun e => h (by rw [e])
theorem eqR_at {l m : List (List Int)} {i : Nat} (h : eqL (l.getD i []) (m.getD i []) = false) : eqR l m = false := eqR_not fun e => eqL_no h (by rw [e])
theorem eqR_all {l m : List (List Int)} (h : l.length = m.length) (g : ∀ i, i < l.length → eqL (l.getD i []) (m.getD i []) = true) : eqR l m = true := by
  refine eqR_of (List.ext_getElem h fun i h1 h2 => ?_)
  have := eqL_yes (g i h1)
  simpa [h1, h2] using this
attribute [irreducible] eqR
end Go.Dam
namespace Go.Proofs.Ytdmfhpigchbcbaa
open Go Go.RowKit Go.Dam
set_option linter.unusedVariables false
set_option maxHeartbeats 400000 in
theorem equalInts_any (v u : Value) (l m : List Int) (b : Bool) (w : World) (B B' : Nat) (h : IsInts .i64 w B v l) (h' : IsInts .i64 w B' u m) (hb : eqL l m = b) :
    Calls Try.prog 22 #[v, u] w fun e w' => e = .returned (.bool b) ∧ Drawn w w' := by
  obtain ⟨A, c, rfl, hc, hm, hl, hr, hw⟩ := h
  obtain ⟨A', c', rfl, hc', hm', hl', hr', _⟩ := h'
  have HE := Lib.hid hb
  clear hb
  by_cases hlen : l.length = m.length
  · have HLen := Lib.hid hlen
    have t0 : ((l.length : Int) != (m.length : Int)) = false := by rw [hlen]; simp
    have hl1 : m.length ≤ l.length := by omega
    have hl2 : l.length ≤ m.length := by omega
    clear hlen
    go_enter Try.func22, Try.ntmps22
    go_wp2_with fail
    go_loopw [13] (fun iv wr => ∃ i : Nat, i ≤ l.length ∧ iv = .int .i64 i ∧ (∀ j, j < i → l.getD j 0 = m.getD j 0) ∧ Drawn w wr) (fun iv _ => l.length - (intOf iv).toNat)
    case atStart => exact ⟨0, by omega, rfl, fun j hj => absurd hj (by omega), Drawn.refl _⟩
    case round =>
      obtain ⟨i, hi, rfl, heq, hd⟩ := hrel
      by_cases hlt : i < l.length
      · have hlt2 : i < m.length := by omega
        obtain ⟨bk, off, rfl, hbk, hcells⟩ := ints_cells hr (by omega)
        obtain ⟨bk', off', rfl, hbk', hcells'⟩ := ints_cells hr' (by omega)
        have k0 := (hd.cell ⟨bk, off + i, none⟩).trans (hcells i hlt)
        have k1 := (hd.cell ⟨bk', off' + i, none⟩).trans (hcells' i hlt2)
        by_cases he : l.getD i 0 = m.getD i 0
        · have HN : Hid (∀ j, j < i + 1 → l.getD j 0 = m.getD j 0) := Lib.hid fun j hj => by
            rcases Nat.lt_or_ge j i with g | g
            · exact heq j g
            · rw [show j = i from by omega]; exact he
          rw [← he] at k1
          have HD := Lib.hid hd
          generalize l.getD i 0 = x at *
          clear hcells hcells' heq he hd
          go_wp2_with fail
          go_quiet (fail)
          go_wp2
          go_roundw
          case rel => exact ⟨i + 1, by omega, by go_num, HN.out, HD.out.drewN _⟩
          case measure => simp [intOf]; omega
        · have hE : Hid (b = false) := Lib.hid (HE.out.symm.trans (eqL_at he))
          have t1 : (l.getD i 0 != m.getD i 0) = true := by simpa using he
          have HD := Lib.hid hd
          generalize l.getD i 0 = x at *
          generalize m.getD i 0 = y at *
          clear hcells hcells' heq hd he
          go_wp2_with fail
          go_quiet (fail)
          go_wp2
          go_ret
          exact ⟨by rw [hE.out]; rfl, HD.out.drewN _⟩
      · obtain rfl : i = l.length := by omega
        have hE : Hid (b = true) := Lib.hid (HE.out.symm.trans (eqL_all HLen.out heq))
        clear heq
        go_wp2
        go_ret
        exact ⟨by rw [hE.out]; rfl, hd⟩
  · have hE : Hid (b = false) := Lib.hid (HE.out.symm.trans (eqL_len hlen))
    have t0 : ((l.length : Int) != (m.length : Int)) = true := by simp; omega
    clear hr hr' hw
    go_enter Try.func22, Try.ntmps22
    go_wp2_with fail
    go_ret
    exact ⟨by rw [hE.out]; rfl, Drawn.refl _⟩
set_option maxHeartbeats 400000 in
theorem equalClos_any (v u : Value) (l m : List Int) (b : Bool) (w : World) (B B' : Nat) (h : IsInts .i64 w B v l) (h' : IsInts .i64 w B' u m) (hb : eqL l m = b) :
    Calls Try.prog 21 #[v, u] w fun e w' => e = .returned (.bool b) ∧ Drawn w w' := by
  have HC := Lib.hid (equalInts_any v u l m b w B B' h h' hb)
  clear h h' hb
  go_enter Try.func21, Try.ntmps21
  go_wp2_with (go_at_call 22; refine (HC.out).mono ?_; rintro e w1 ⟨rfl, hd1⟩)
  go_ret
  exact ⟨rfl, hd1⟩
set_option maxHeartbeats 400000 in
theorem equalRows_any (v u : Value) (l m : List (List Int)) (b : Bool) (w : World) (B B' : Nat) (h : IsRows w B v l) (h' : IsRows w B' u m) (hb : eqR l m = b) :
    Calls Try.prog 20 #[v, u, .func (.func 21) #[] #[]] w fun e w' => e = .returned (.bool b) ∧ Drawn w w' := by
  obtain ⟨A, c, vs, rfl, hc, hm, hn, hl, hr, hi⟩ := h
  obtain ⟨A', c', us, rfl, hc', hm', hn', hl', hr', hi'⟩ := h'
  have HE := Lib.hid hb
  have HI := Lib.hid hi
  have HI' := Lib.hid hi'
  have HL := Lib.hid hl
  have HL' := Lib.hid hl'
  clear hb hi hi' hl hl'
  by_cases hlen : l.length = m.length
  · have HLen := Lib.hid hlen
    have t0 : ((l.length : Int) != (m.length : Int)) = false := by rw [hlen]; simp
    have hl1 : m.length ≤ l.length := by omega
    have hl2 : l.length ≤ m.length := by omega
    clear hlen
    go_enter Try.func20, Try.ntmps20
    go_wp2_with fail
    go_loopw [17] (fun iv wr => ∃ i : Nat, i ≤ l.length ∧ iv = .int .i64 i ∧ (∀ j, j < i → eqL (l.getD j []) (m.getD j []) = true) ∧ Drawn w wr) (fun iv _ => l.length - (intOf iv).toNat)
    case atStart => exact ⟨0, by omega, rfl, fun j hj => absurd hj (by omega), Drawn.refl _⟩
    case round =>
      obtain ⟨i, hi, rfl, heq, hd⟩ := hrel
      by_cases hlt : i < l.length
      · have hlt2 : i < m.length := by omega
        obtain ⟨bk, off, rfl, hbk, hcells⟩ := IsRows.cells (c := c) HL.out hr (by omega)
        obtain ⟨bk', off', rfl, hbk', hcells'⟩ := IsRows.cells (c := c') HL'.out hr' (by omega)
        have k0 := (hd.cell ⟨bk, off + i, none⟩).trans (hcells i hlt)
        have k1 := (hd.cell ⟨bk', off' + i, none⟩).trans (hcells' i hlt2)
        have hC := fun x hx => equalClos_any _ _ _ _ x wr B B' ((HI.out i hlt).below (hd.below _)) ((HI'.out i hlt2).below (hd.below _)) hx
        have HD := Lib.hid hd
        cases he : eqL (l.getD i []) (m.getD i []) with
        | true =>
          have HN : Hid (∀ j, j < i + 1 → eqL (l.getD j []) (m.getD j []) = true) := Lib.hid fun j hj => by
            rcases Nat.lt_or_ge j i with g | g
            · exact heq j g
            · rw [show j = i from by omega]; exact he
          have HC := Lib.hid (hC _ he)
          generalize vs.getD i undef = x at *
          generalize us.getD i undef = y at *
          clear hcells hcells' heq he hd hC
          go_wp2_with (go_at_call 21; refine (HC.out).mono ?_; rintro e w1 ⟨rfl, hd1⟩)
          go_roundw
          case rel => exact ⟨i + 1, by omega, by go_num, HN.out, HD.out.trans hd1⟩
          case measure => simp [intOf]; omega
        | false =>
          have hE : Hid (b = false) := Lib.hid (HE.out.symm.trans (eqR_at he))
          have HC := Lib.hid (hC _ he)
          generalize vs.getD i undef = x at *
          generalize us.getD i undef = y at *
          clear hcells hcells' heq he hd hC
          go_wp2_with (go_at_call 21; refine (HC.out).mono ?_; rintro e w1 ⟨rfl, hd1⟩)
          go_ret
          exact ⟨by rw [hE.out]; rfl, HD.out.trans hd1⟩
      · obtain rfl : i = l.length := by omega
        have hE : Hid (b = true) := Lib.hid (HE.out.symm.trans (eqR_all HLen.out heq))
        clear heq
        go_wp2
        go_ret
        exact ⟨by rw [hE.out]; rfl, hd⟩
  · have hE : Hid (b = false) := Lib.hid (HE.out.symm.trans (eqR_len hlen))
    have t0 : ((l.length : Int) != (m.length : Int)) = true := by simp; omega
    clear hr hr'
    go_enter Try.func20, Try.ntmps20
    go_wp2_with fail
    go_ret
    exact ⟨by rw [hE.out]; rfl, Drawn.refl _⟩
end Go.Proofs.Ytdmfhpigchbcbaa
