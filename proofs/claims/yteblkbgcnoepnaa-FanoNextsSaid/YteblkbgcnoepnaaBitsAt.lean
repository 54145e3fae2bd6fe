/-
  Contract of bits.At: the bit at a place of a row, or why there is none. Conditions: the row can be read as data.
-/
import Derived.Test.YteblkbgcnoepnaaBitsMay
namespace Go.Proofs.Yteblkbgcnoepnaa
open Go Go.RowKit Go.Dam
set_option linter.unusedVariables false

/-- What At answers: a bit, and a code. -/
def AtR (n : Int) (ws : List Nat) (i : Int) (r : Bool) (c : Int) : Prop :=
  (mayBits n ws = false ∧ r = false ∧ c = 4) ∨ (mayBits n ws = true ∧ (i < 0 ∨ n ≤ i) ∧ r = false ∧ c = 2) ∨ (mayBits n ws = true ∧ 0 ≤ i ∧ i < n ∧ r = bitAt ws i.toNat ∧ c = 0)
theorem AtR.ex (n : Int) (ws : List Nat) (i : Int) : ∃ r c, AtR n ws i r c := by
  cases hm : mayBits n ws with
  | false => exact ⟨_, _, .inl ⟨hm, rfl, rfl⟩⟩
  | true =>
    by_cases h : i < 0 ∨ n ≤ i
    · exact ⟨_, _, .inr (.inl ⟨hm, h, rfl, rfl⟩)⟩
    · exact ⟨_, _, .inr (.inr ⟨hm, by omega, by omega, rfl, rfl⟩)⟩
set_option maxHeartbeats 400000 in
theorem at_any (v : Value) (n i : Int) (ws : List Nat) (r : Bool) (cc : Int) (w : World) (B : Nat) (hB : B ≤ w.heap.size) (h : IsBits w B v n ws) (hi64 : I64 i) (hR : AtR n ws i r cc) :
    Calls Try.prog 66 #[v, .int .i64 i] w fun e w' => e = .returned (.tuple #[.bool r, .int .i64 cc]) ∧ Below w.heap.size w w' := by
  obtain ⟨s, rfl, hs⟩ : ∃ s, v = .agg #[.int .i64 n, s] ∧ IsWords w B s ws := by
    obtain ⟨s, e, _, hs⟩ := h
    exact ⟨s, e, hs⟩
  have hA : IsBits (w.alloc (.cells #[.int .i64 n, s] 24)) B (.agg #[.int .i64 n, s]) n ws := h.below ((Below.refl _ _).alloc hB _)
  have HA := Lib.hid (fun W (hW : Below B w W) (hz : B ≤ W.heap.size) => may_any (.agg #[.int .i64 n, s]) n ws W B hz (h.below hW))
  unfold I64 at hi64
  rcases hR with ⟨hm, rfl, rfl⟩ | ⟨hm, hi, rfl, rfl⟩ | ⟨hm, h1, h2, rfl, rfl⟩
  · clear h hA hs
    go_enter Try.func66, Try.ntmps66
    go_wp2_with (go_at_call 42; refine (HA.out _ ((Below.refl _ _).alloc hB _) (box_le hB)).mono ?_; rintro e w1 ⟨rfl, hb⟩)
    go_ret2
    exact ⟨rfl, below_box hb⟩
  · clear h hA hs
    rcases hi with hi | hi
    · go_enter Try.func66, Try.ntmps66
      go_wp2_with (go_at_call 42; refine (HA.out _ ((Below.refl _ _).alloc hB _) (box_le hB)).mono ?_; rintro e w1 ⟨rfl, hb⟩; obtain ⟨k0, k1⟩ := box2 hb)
      go_ret2
      exact ⟨rfl, below_box hb⟩
    · have h0 := (may_facts hm).1
      have hi' : ¬ i < 0 := by omega
      go_enter Try.func66, Try.ntmps66
      go_wp2_with (go_at_call 42; refine (HA.out _ ((Below.refl _ _).alloc hB _) (box_le hB)).mono ?_; rintro e w1 ⟨rfl, hb⟩; obtain ⟨k0, k1⟩ := box2 hb)
      go_ret2
      exact ⟨rfl, below_box hb⟩
  · obtain ⟨h3, h4, h5⟩ := may_facts hm
    obtain ⟨k, rfl⟩ := Int.eq_ofNat_of_zero_le h1
    obtain ⟨A, c, rfl, hc, hcm, hl, hr, hw⟩ := hs
    obtain ⟨b, off, rfl, hbB, hcells⟩ := word_at hr (by omega)
    have hcell := hcells (k / 64) (by omega)
    have hx := word_lt hw (k / 64)
    have hbit := bit_of_word ws k
    rw [Int.toNat_natCast, ← hbit]
    generalize ws.getD (k / 64) 0 = x at *
    have hkl : k / 64 < ws.length := by omega
    have hk64 : k % 64 < 64 := by omega
    have e1 := bit_u64 x (k % 64) hx
    have e2 := bit_test x (k % 64)
    have hbw : b < w.heap.size := by omega
    clear h hA hcells hbit h5 hr
    go_enter Try.func66, Try.ntmps66
    go_wp2_with (go_at_call 42; refine (HA.out _ ((Below.refl _ _).alloc hB _) (box_le hB)).mono ?_; rintro e w1 ⟨rfl, hb⟩; obtain ⟨k0, k1⟩ := box2 hb; have k2 := old_cell hb hbw hcell)
    go_ret2
    exact ⟨ret2 (vbool e2) rfl, below_box hb⟩
end Go.Proofs.Yteblkbgcnoepnaa
