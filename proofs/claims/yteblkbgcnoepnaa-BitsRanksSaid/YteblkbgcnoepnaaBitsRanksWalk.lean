/-
  Contract of the reference's BitsRank and the walk of the law BitsRanks: both answer the same number and the same code. Conditions: the row can be read as data.
-/
import Derived.Test.YteblkbgcnoepnaaBools
import Derived.Test.YteblkbgcnoepnaaBitsRank
namespace Go.Proofs.Yteblkbgcnoepnaa
open Go Go.RowKit Go.Dam
set_option linter.unusedVariables false

set_option maxHeartbeats 1000000 in
theorem refRank_any (v : Value) (n i : Int) (ws : List Nat) (r cc : Int) (w : World) (B : Nat) (hB : B ≤ w.heap.size) (h : IsBits w B v n ws) (hi64 : I64 i) (hR : BRankR n ws i r cc) :
    Calls Try.prog 16 #[v, .int .i64 i] w fun e w' => e = .returned (.tuple #[.int .i64 r, .int .i64 cc]) ∧ Below w.heap.size w w' := by
  obtain ⟨s, rfl, hs⟩ : ∃ s, v = .agg #[.int .i64 n, s] ∧ IsWords w B s ws := by
    obtain ⟨s, e, _, hs⟩ := h
    exact ⟨s, e, hs⟩
  have HH := Lib.hid h
  clear h hs
  unfold I64 at hi64
  rcases hR with ⟨hm, rfl, rfl⟩ | ⟨hm, hi, rfl, rfl⟩ | ⟨hm, h1, h2, rfl, rfl⟩
  · go_enter Try.func16, Try.ntmps16
    go_wp2_with (go_at_call 45; refine (refMay_any _ n ws _ B (box_le hB) (HH.out.below ((Below.refl _ _).alloc hB _))).mono ?_; rintro e w1 ⟨rfl, hb⟩)
    go_ret2
    exact ⟨rfl, below_box hb⟩
  · rcases hi with hi | hi
    · go_enter Try.func16, Try.ntmps16
      go_wp2_with (go_at_call 45; refine (refMay_any _ n ws _ B (box_le hB) (HH.out.below ((Below.refl _ _).alloc hB _))).mono ?_; rintro e w1 ⟨rfl, hb⟩; obtain ⟨k0, k1⟩ := box2 hb)
      go_ret2
      exact ⟨rfl, below_box hb⟩
    · have h0 := (may_facts hm).1
      have hi' : ¬ i < 0 := by omega
      go_enter Try.func16, Try.ntmps16
      go_wp2_with (go_at_call 45; refine (refMay_any _ n ws _ B (box_le hB) (HH.out.below ((Below.refl _ _).alloc hB _))).mono ?_; rintro e w1 ⟨rfl, hb⟩; obtain ⟨k0, k1⟩ := box2 hb)
      go_ret2
      exact ⟨rfl, below_box hb⟩
  · have h0 := (may_facts hm).1
    have h4 := (may_facts hm).2.1
    obtain ⟨k, rfl⟩ := Int.eq_ofNat_of_zero_le h1
    obtain ⟨m, rfl⟩ := Int.eq_ofNat_of_zero_le h0
    rw [Int.toNat_natCast]
    have hkm : k ≤ m := by omega
    have hm4 : m ≤ 4096 := by omega
    have HG := Lib.hid fun j hj => rowBits_get ws m j hj
    have hlen := rowBits_length ws m
    go_enter Try.func16, Try.ntmps16
    go_wp2_with (first
      | (go_at_call 45; refine (refMay_any _ m ws _ B (box_le hB) (HH.out.below ((Below.refl _ _).alloc hB _))).mono ?_; rintro e w1 ⟨rfl, hb⟩; obtain ⟨k0, k1⟩ := box2 hb; have hs1 := size_box hb; have HB := Lib.hid hb; clear hb)
      | (go_at_call 46; refine (bools_any _ m ws _ B (by omega) (HH.out.below ((below_box HB.out).mono hB)) hm).mono ?_; rintro e w2 ⟨v2, rfl, ⟨A2, c2, rfl, hc2, hcm2, hl2, hr2⟩, hb2⟩; have HAT := Lib.hid fun (hp : 0 < m) => bools_at hr2 (by rw [hlen]; exact hp); rw [hlen] at hc2 ⊢; clear hr2))
    go_loop [6, 25] (fun nv iv => ∃ q : Nat, q ≤ k ∧ iv = .int .i64 q ∧ nv = .int .i64 (cntB ws true q : Nat)) (fun _ iv => k - (intOf iv).toNat)
    case atStart => exact ⟨0, by omega, rfl, by rw [cntB_0]; rfl⟩
    case round =>
      obtain ⟨q, hq, rfl, rfl⟩ := hrel
      by_cases hlt : q < k
      · obtain ⟨b2, off2, rfl, hb2B, hcells2⟩ := HAT.out (by omega)
        have k2 := hcells2 q (by rw [hlen]; omega)
        rw [HG.out q (by omega)] at k2
        have hbd := cntB_le ws true q
        have hY := @cntB_yes ws true q
        have hN := @cntB_no ws true q
        generalize bitAt ws q = bt at *
        clear hcells2
        cases bt with
        | true =>
          have HY := Lib.hid (hY rfl)
          clear hY hN
          go_wp2
          go_round
          case rel => exact ⟨q + 1, by omega, by go_num, vint (by rw [HY.out]; simp)⟩
          case measure => simp [intOf]; omega
        | false =>
          have HN := Lib.hid (hN (by simp))
          clear hY hN
          go_wp2
          go_round
          case rel => exact ⟨q + 1, by omega, by go_num, vint (by rw [HN.out])⟩
          case measure => simp [intOf]; omega
      · obtain rfl : q = k := by omega
        go_wp2
        go_ret2
        exact ⟨rfl, (below_box HB.out).trans (hb2.mono (by omega))⟩
set_option maxHeartbeats 400000 in
theorem bitsRanks_walk (v u : Value) (w : World) (h : ∃ n ws, IsBits w w.heap.size v n ws) (h' : ∃ x : Int, u = .int .i64 x ∧ I64 x) :
    Calls Try.prog 3 #[v, u] w fun e w' => e = .returned (.bool true) ∧ Below w.heap.size w w' := by
  obtain ⟨n, ws, h⟩ := h
  obtain ⟨i, rfl, hi⟩ := h'
  obtain ⟨r, cc, hR⟩ := BRankR.ex n ws i
  obtain ⟨s, rfl⟩ : ∃ s, v = .agg #[.int .i64 n, s] := by obtain ⟨s, e, _⟩ := h; exact ⟨s, e⟩
  have HH := Lib.hid h
  have HR := Lib.hid hR
  have HI := Lib.hid hi
  clear h hR hi
  go_enter Try.func3, Try.ntmps3
  go_wp2_with (first
    | (go_at_call 15; refine (bitsRank_any _ n i ws r cc _ w.heap.size (box_le (Nat.le_refl _)) (HH.out.below ((Below.refl _ _).alloc (Nat.le_refl _) _)) HI.out HR.out).mono ?_; rintro e w1 ⟨rfl, hb⟩; obtain ⟨k0, k1⟩ := box2 hb; have hs1 := size_box hb; have HB := Lib.hid hb; clear hb)
    | (go_at_call 16; refine (refRank_any _ n i ws r cc _ w.heap.size (by omega) (HH.out.below (below_box HB.out)) HI.out HR.out).mono ?_; rintro e w2 ⟨rfl, hb2⟩))
  all_goals (go_ret; exact ⟨ret_bool (by simp), (below_box HB.out).trans (hb2.mono (by omega))⟩)
end Go.Proofs.Yteblkbgcnoepnaa
