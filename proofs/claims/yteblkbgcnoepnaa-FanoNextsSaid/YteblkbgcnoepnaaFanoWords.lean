/-
  Contracts of slices.Equal at words, of the reference's sameWordList, and the reading of a fano struct. Conditions: the words can be read as data.
-/
import Derived.Test.YteblkbgcnoepnaaFanoReadPlain
import Derived.Test.YteblkbgcnoepnaaWords
import Derived.Test.YteblkbgcnoepnaaBase
namespace Go.Dam
open Go Go.RowKit
/-- A fano struct: bound, the packed lower bits, the marks of the higher bits. -/
def IsFano (w : World) (B : Nat) (v : Value) (bd n1 m1 : Int) (ws1 : List Nat) (n2 : Int) (ws2 : List Nat) : Prop :=
  ∃ s1 s2, v = .agg #[.int .i64 bd, .int .i64 n1, .int .i64 m1, s1, .int .i64 n2, s2] ∧ I64 bd ∧ I64 n1 ∧ I64 m1 ∧ I64 n2 ∧ IsWords w B s1 ws1 ∧ IsWords w B s2 ws2
theorem IsFano.below {w w' : World} {B : Nat} {v : Value} {bd n1 m1 : Int} {ws1 : List Nat} {n2 : Int} {ws2 : List Nat} (h : IsFano w B v bd n1 m1 ws1 n2 ws2) (hb : Below B w w') : IsFano w' B v bd n1 m1 ws1 n2 ws2 := by
  obtain ⟨s1, s2, rfl, a, b, c, d, e, f⟩ := h
  exact ⟨s1, s2, rfl, a, b, c, d, e.below hb, f.below hb⟩
theorem IsFano.more {w : World} {B B' : Nat} {v : Value} {bd n1 m1 : Int} {ws1 : List Nat} {n2 : Int} {ws2 : List Nat} (h : IsFano w B v bd n1 m1 ws1 n2 ws2) (hb : B ≤ B') : IsFano w B' v bd n1 m1 ws1 n2 ws2 := by
  obtain ⟨s1, s2, rfl, a, b, c, d, e, f⟩ := h
  exact ⟨s1, s2, rfl, a, b, c, d, e.more hb, f.more hb⟩
end Go.Dam
namespace Go.Proofs.Yteblkbgcnoepnaa
open Go Go.RowKit Go.Dam
set_option linter.unusedVariables false
set_option maxHeartbeats 400000 in
theorem equalWords_any (v u : Value) (l m : List Nat) (b : Bool) (w : World) (B B' : Nat) (h : IsWords w B v l) (h' : IsWords w B' u m) (hb : eqW l m = b) :
    Calls Try.prog 79 #[v, u] w fun e w' => e = .returned (.bool b) ∧ Drawn w w' := by
  obtain ⟨A, c, rfl, hc, hm, hl, hr, hw⟩ := h
  obtain ⟨A', c', rfl, hc', hm', hl', hr', _⟩ := h'
  have HE := Lib.hid hb
  clear hb
  by_cases hlen : l.length = m.length
  · have HLen := Lib.hid hlen
    have t0 : ((l.length : Int) != (m.length : Int)) = false := by rw [hlen]; simp
    have hl1 : m.length ≤ l.length := by omega
    have hl2 : l.length ≤ m.length := by omega
    clear hlen
    go_enter Try.func79, Try.ntmps79
    go_wp2_with fail
    go_loopw [13] (fun iv wr => ∃ i : Nat, i ≤ l.length ∧ iv = .int .i64 i ∧ (∀ j, j < i → l.getD j 0 = m.getD j 0) ∧ Drawn w wr) (fun iv _ => l.length - (intOf iv).toNat)
    case atStart => exact ⟨0, by omega, rfl, fun j hj => absurd hj (by omega), Drawn.refl _⟩
    case round =>
      obtain ⟨i, hi, rfl, heq, hd⟩ := hrel
      by_cases hlt : i < l.length
      · have hlt2 : i < m.length := by omega
        obtain ⟨bk, off, rfl, hbk, hcells⟩ := word_at hr (by omega)
        obtain ⟨bk', off', rfl, hbk', hcells'⟩ := word_at hr' (by omega)
        have k0 := (hd.cell ⟨bk, off + i, none⟩).trans (hcells i hlt)
        have k1 := (hd.cell ⟨bk', off' + i, none⟩).trans (hcells' i hlt2)
        by_cases he : l.getD i 0 = m.getD i 0
        · have HN : Hid (∀ j, j < i + 1 → l.getD j 0 = m.getD j 0) := Lib.hid fun j hj => by
            rcases Nat.lt_or_ge j i with g | g
            · exact heq j g
            · rw [show j = i from by omega]; exact he
          rw [← he] at k1
          have HD := Lib.hid hd
          generalize l.getD i 0 = x at *
          clear hcells hcells' heq he hd
          go_wp2_with fail
          go_quiet (fail)
          go_wp2
          go_roundw
          case rel => exact ⟨i + 1, by omega, by go_num, HN.out, HD.out.drewN _⟩
          case measure => simp [intOf]; omega
        · have hE : Hid (b = false) := Lib.hid (HE.out.symm.trans (eqW_at he))
          have t1 : (l.getD i 0 != m.getD i 0) = true := by simpa using he
          have HD := Lib.hid hd
          generalize l.getD i 0 = x at *
          generalize m.getD i 0 = y at *
          clear hcells hcells' heq hd he
          go_wp2_with fail
          go_quiet (fail)
          go_wp2
          go_ret
          exact ⟨by rw [hE.out]; rfl, HD.out.drewN _⟩
      · obtain rfl : i = l.length := by omega
        have hE : Hid (b = true) := Lib.hid (HE.out.symm.trans (eqW_all HLen.out heq))
        clear heq
        go_wp2
        go_ret
        exact ⟨by rw [hE.out]; rfl, hd⟩
  · have hE : Hid (b = false) := Lib.hid (HE.out.symm.trans (eqW_len hlen))
    have t0 : ((l.length : Int) != (m.length : Int)) = true := by simp; omega
    clear hr hr' hw
    go_enter Try.func79, Try.ntmps79
    go_wp2_with fail
    go_ret
    exact ⟨by rw [hE.out]; rfl, Drawn.refl _⟩
set_option maxHeartbeats 400000 in
theorem sameWordList_any (v u : Value) (l m : List Nat) (b : Bool) (w : World) (B B' : Nat) (h : IsWords w B v l) (h' : IsWords w B' u m) (hb : eqW l m = b) :
    Calls Try.prog 62 #[v, u] w fun e w' => e = .returned (.bool b) ∧ Drawn w w' := by
  obtain ⟨A, c, rfl, hc, hm, hl, hr, hw⟩ := h
  obtain ⟨A', c', rfl, hc', hm', hl', hr', _⟩ := h'
  have HE := Lib.hid hb
  clear hb
  by_cases hlen : l.length = m.length
  · have HLen := Lib.hid hlen
    have t0 : ((l.length : Int) != (m.length : Int)) = false := by rw [hlen]; simp
    have hl1 : m.length ≤ l.length := by omega
    have hl2 : l.length ≤ m.length := by omega
    clear hlen
    go_enter Try.func62, Try.ntmps62
    go_wp2_with fail
    go_loopw [13] (fun iv wr => ∃ i : Nat, i ≤ l.length ∧ iv = .int .i64 i ∧ (∀ j, j < i → l.getD j 0 = m.getD j 0) ∧ Drawn w wr) (fun iv _ => l.length - (intOf iv).toNat)
    case atStart => exact ⟨0, by omega, rfl, fun j hj => absurd hj (by omega), Drawn.refl _⟩
    case round =>
      obtain ⟨i, hi, rfl, heq, hd⟩ := hrel
      by_cases hlt : i < l.length
      · have hlt2 : i < m.length := by omega
        obtain ⟨bk, off, rfl, hbk, hcells⟩ := word_at hr (by omega)
        obtain ⟨bk', off', rfl, hbk', hcells'⟩ := word_at hr' (by omega)
        have k0 := (hd.cell ⟨bk, off + i, none⟩).trans (hcells i hlt)
        have k1 := (hd.cell ⟨bk', off' + i, none⟩).trans (hcells' i hlt2)
        by_cases he : l.getD i 0 = m.getD i 0
        · have HN : Hid (∀ j, j < i + 1 → l.getD j 0 = m.getD j 0) := Lib.hid fun j hj => by
            rcases Nat.lt_or_ge j i with g | g
            · exact heq j g
            · rw [show j = i from by omega]; exact he
          rw [← he] at k1
          have HD := Lib.hid hd
          generalize l.getD i 0 = x at *
          clear hcells hcells' heq he hd
          go_wp2_with fail
          go_quiet (fail)
          go_wp2
          go_roundw
          case rel => exact ⟨i + 1, by omega, by go_num, HN.out, HD.out.drewN _⟩
          case measure => simp [intOf]; omega
        · have hE : Hid (b = false) := Lib.hid (HE.out.symm.trans (eqW_at he))
          have t1 : (l.getD i 0 != m.getD i 0) = true := by simpa using he
          have HD := Lib.hid hd
          generalize l.getD i 0 = x at *
          generalize m.getD i 0 = y at *
          clear hcells hcells' heq hd he
          go_wp2_with fail
          go_quiet (fail)
          go_wp2
          go_ret
          exact ⟨by rw [hE.out]; rfl, HD.out.drewN _⟩
      · obtain rfl : i = l.length := by omega
        have hE : Hid (b = true) := Lib.hid (HE.out.symm.trans (eqW_all HLen.out heq))
        clear heq
        go_wp2
        go_ret
        exact ⟨by rw [hE.out]; rfl, hd⟩
  · have hE : Hid (b = false) := Lib.hid (HE.out.symm.trans (eqW_len hlen))
    have t0 : ((l.length : Int) != (m.length : Int)) = true := by simp; omega
    clear hr hr' hw
    go_enter Try.func62, Try.ntmps62
    go_wp2_with fail
    go_ret
    exact ⟨by rw [hE.out]; rfl, Drawn.refl _⟩
end Go.Proofs.Yteblkbgcnoepnaa
