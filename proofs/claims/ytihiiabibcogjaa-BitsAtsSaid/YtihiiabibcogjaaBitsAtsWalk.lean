/-
  Contract of the reference's BitsAt and the walk of the law BitsAts: both answer the same bit and the same code. Conditions: the row can be read as data.
-/
import Derived.Test.YtihiiabibcogjaaBools
namespace Go.Proofs.Ytihiiabibcogjaa
open Go Go.RowKit Go.Dam
set_option linter.unusedVariables false

set_option maxHeartbeats 400000 in
theorem refAt_any (v : Value) (n i : Int) (ws : List Nat) (r : Bool) (cc : Int) (w : World) (B : Nat) (hB : B ≤ w.heap.size) (h : IsBits w B v n ws) (hi64 : I64 i) (hR : AtR n ws i r cc) :
    Calls Try.prog 25 #[v, .int .i64 i] w fun e w' => e = .returned (.tuple #[.bool r, .int .i64 cc]) ∧ Below w.heap.size w w' := by
  obtain ⟨s, rfl, hs⟩ : ∃ s, v = .agg #[.int .i64 n, s] ∧ IsWords w B s ws := by
    obtain ⟨s, e, _, hs⟩ := h
    exact ⟨s, e, hs⟩
  have HH := Lib.hid h
  clear h hs
  unfold I64 at hi64
  rcases hR with ⟨hm, rfl, rfl⟩ | ⟨hm, hi, rfl, rfl⟩ | ⟨hm, h1, h2, rfl, rfl⟩
  · go_enter Try.func25, Try.ntmps25
    go_wp2_with (go_at_call 16; refine (refMay_any _ n ws _ B (box_le hB) (HH.out.below ((Below.refl _ _).alloc hB _))).mono ?_; rintro e w1 ⟨rfl, hb⟩)
    go_ret2
    exact ⟨rfl, below_box hb⟩
  · rcases hi with hi | hi
    · go_enter Try.func25, Try.ntmps25
      go_wp2_with (go_at_call 16; refine (refMay_any _ n ws _ B (box_le hB) (HH.out.below ((Below.refl _ _).alloc hB _))).mono ?_; rintro e w1 ⟨rfl, hb⟩; obtain ⟨k0, k1⟩ := box2 hb)
      go_ret2
      exact ⟨rfl, below_box hb⟩
    · have h0 := (may_facts hm).1
      have hi' : ¬ i < 0 := by omega
      go_enter Try.func25, Try.ntmps25
      go_wp2_with (go_at_call 16; refine (refMay_any _ n ws _ B (box_le hB) (HH.out.below ((Below.refl _ _).alloc hB _))).mono ?_; rintro e w1 ⟨rfl, hb⟩; obtain ⟨k0, k1⟩ := box2 hb)
      go_ret2
      exact ⟨rfl, below_box hb⟩
  · have h0 := (may_facts hm).1
    obtain ⟨k, rfl⟩ := Int.eq_ofNat_of_zero_le h1
    obtain ⟨m, rfl⟩ := Int.eq_ofNat_of_zero_le h0
    have hkm : k < m := by omega
    have HG := Lib.hid (rowBits_get ws m k hkm)
    have hlen := rowBits_length ws m
    go_enter Try.func25, Try.ntmps25
    go_wp2_with (first
      | (go_at_call 16; refine (refMay_any _ m ws _ B (box_le hB) (HH.out.below ((Below.refl _ _).alloc hB _))).mono ?_; rintro e w1 ⟨rfl, hb⟩; obtain ⟨k0, k1⟩ := box2 hb; have hs1 := size_box hb; have HB := Lib.hid hb; clear hb)
      | (go_at_call 42; refine (bools_any _ m ws _ B (by omega) (HH.out.below ((below_box HB.out).mono hB)) hm).mono ?_; rintro e w2 ⟨v2, rfl, ⟨A2, c2, rfl, hc2, hcm2, hl2, hr2⟩, hb2⟩; obtain ⟨b2, off2, rfl, hb2B, hcells2⟩ := bools_at hr2 (by rw [hlen]; omega); have k2 := hcells2 k (by rw [hlen]; exact hkm); rw [HG.out] at k2; rw [hlen] at hc2 ⊢; clear hcells2 hr2))
    go_ret2
    exact ⟨by simp, (below_box HB.out).trans (hb2.mono (by omega))⟩
set_option maxHeartbeats 400000 in
theorem bitsAts_walk (v u : Value) (w : World) (h : ∃ n ws, IsBits w w.heap.size v n ws) (h' : ∃ x : Int, u = .int .i64 x ∧ I64 x) :
    Calls Try.prog 8 #[v, u] w fun e w' => e = .returned (.bool true) ∧ Below w.heap.size w w' := by
  obtain ⟨n, ws, h⟩ := h
  obtain ⟨i, rfl, hi⟩ := h'
  obtain ⟨r, cc, hR⟩ := AtR.ex n ws i
  obtain ⟨s, rfl⟩ : ∃ s, v = .agg #[.int .i64 n, s] := by obtain ⟨s, e, _⟩ := h; exact ⟨s, e⟩
  have HH := Lib.hid h
  have HR := Lib.hid hR
  have HI := Lib.hid hi
  clear h hR hi
  go_enter Try.func8, Try.ntmps8
  go_wp2_with (first
    | (go_at_call 24; refine (at_any _ n i ws r cc _ w.heap.size (box_le (Nat.le_refl _)) (HH.out.below ((Below.refl _ _).alloc (Nat.le_refl _) _)) HI.out HR.out).mono ?_; rintro e w1 ⟨rfl, hb⟩; obtain ⟨k0, k1⟩ := box2 hb; have hs1 := size_box hb; have HB := Lib.hid hb; clear hb)
    | (go_at_call 25; refine (refAt_any _ n i ws r cc _ w.heap.size (by omega) (HH.out.below (below_box HB.out)) HI.out HR.out).mono ?_; rintro e w2 ⟨rfl, hb2⟩))
  all_goals (go_ret; exact ⟨ret_bool (by simp), (below_box HB.out).trans (hb2.mono (by omega))⟩)
end Go.Proofs.Ytihiiabibcogjaa
