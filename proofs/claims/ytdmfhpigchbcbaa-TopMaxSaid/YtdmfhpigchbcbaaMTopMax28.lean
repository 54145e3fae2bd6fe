/-
  Contract of bits.Rank: how many bits below a place are set, or why there is no answer. Conditions: the row can be read as data.
-/
import Derived.Test.YtdmfhpigchbcbaaMTopMax20
import Derived.Test.YtdmfhpigchbcbaaMTopMax27
import Derived.Test.YtdmfhpigchbcbaaMTopMax00
namespace Go.Dam
open Go
theorem faced_true (x : Nat) : faced true x = x := by unfold faced; simp
/-- What Rank answers. -/
def BRankR (n : Int) (ws : List Nat) (i : Int) (r c : Int) : Prop :=
  (mayBits n ws = false ∧ r = 0 ∧ c = 4) ∨ (mayBits n ws = true ∧ (i < 0 ∨ n < i) ∧ r = 0 ∧ c = 2) ∨ (mayBits n ws = true ∧ 0 ≤ i ∧ i ≤ n ∧ r = (cntB ws true i.toNat : Nat) ∧ c = 0)
theorem BRankR.ex (n : Int) (ws : List Nat) (i : Int) : ∃ r c, BRankR n ws i r c := by
  cases hm : mayBits n ws with
  | false => exact ⟨_, _, .inl ⟨hm, rfl, rfl⟩⟩
  | true =>
    by_cases h : i < 0 ∨ n < i
    · exact ⟨_, _, .inr (.inl ⟨hm, h, rfl, rfl⟩)⟩
    · exact ⟨_, _, .inr (.inr ⟨hm, by omega, by omega, rfl, rfl⟩)⟩
end Go.Dam
namespace Go.Proofs.Ytdmfhpigchbcbaa
open Go Go.RowKit Go.Dam
set_option linter.unusedVariables false
set_option maxHeartbeats 1000000 in
theorem bitsRank_any (v : Value) (n i : Int) (ws : List Nat) (r cc : Int) (w : World) (B : Nat) (hB : B ≤ w.heap.size) (h : IsBits w B v n ws) (hi64 : I64 i) (hR : BRankR n ws i r cc) :
    Calls Try.prog 73 #[v, .int .i64 i] w fun e w' => e = .returned (.tuple #[.int .i64 r, .int .i64 cc]) ∧ Below w.heap.size w w' := by
  obtain ⟨s, rfl, hs⟩ : ∃ s, v = .agg #[.int .i64 n, s] ∧ IsWords w B s ws := by
    obtain ⟨s, e, _, hs⟩ := h
    exact ⟨s, e, hs⟩
  have hA : IsBits (w.alloc (.cells #[.int .i64 n, s] 73)) B (.agg #[.int .i64 n, s]) n ws := h.below ((Below.refl _ _).alloc hB _)
  have HA := Lib.hid (fun W (hW : Below B w W) (hz : B ≤ W.heap.size) => may_any (.agg #[.int .i64 n, s]) n ws W B hz (h.below hW))
  unfold I64 at hi64
  rcases hR with ⟨hm, rfl, rfl⟩ | ⟨hm, hi, rfl, rfl⟩ | ⟨hm, h1, h2, rfl, rfl⟩
  · clear h hA hs
    go_enter Try.func73, Try.ntmps73
    go_wp2_with (go_at_call 62; refine (HA.out _ ((Below.refl _ _).alloc hB _) (box_le hB)).mono ?_; rintro e w1 ⟨rfl, hb⟩)
    go_ret2
    exact ⟨rfl, below_box hb⟩
  · clear h hA hs
    rcases hi with hi | hi
    · go_enter Try.func73, Try.ntmps73
      go_wp2_with (go_at_call 62; refine (HA.out _ ((Below.refl _ _).alloc hB _) (box_le hB)).mono ?_; rintro e w1 ⟨rfl, hb⟩; obtain ⟨k0, k1⟩ := box2 hb)
      go_ret2
      exact ⟨rfl, below_box hb⟩
    · have h0 := (may_facts hm).1
      have hi' : ¬ i < 0 := by omega
      go_enter Try.func73, Try.ntmps73
      go_wp2_with (go_at_call 62; refine (HA.out _ ((Below.refl _ _).alloc hB _) (box_le hB)).mono ?_; rintro e w1 ⟨rfl, hb⟩; obtain ⟨k0, k1⟩ := box2 hb)
      go_ret2
      exact ⟨rfl, below_box hb⟩
  · obtain ⟨h3, h4, h5⟩ := may_facts hm
    obtain ⟨k, rfl⟩ := Int.eq_ofNat_of_zero_le h1
    obtain ⟨A, c, rfl, hc, hcm, hl, hr, hw⟩ := hs
    rw [Int.toNat_natCast]
    have hkl : k / 64 ≤ ws.length := by omega
    have hk4 : k ≤ 4096 := by omega
    have HKL : Hid (0 < k % 64 → k / 64 < ws.length) := Lib.hid (by omega)
    have HCW := Lib.hid fun q r hr => cntB_word ws true q (word_lt hw q) r hr
    clear h hA h5
    go_enter Try.func73, Try.ntmps73
    go_wp2_with (go_at_call 62; refine (HA.out _ ((Below.refl _ _).alloc hB _) (box_le hB)).mono ?_; rintro e w1 ⟨rfl, hb⟩; obtain ⟨k0, k1⟩ := box2 hb)
    go_loop [6, 30] (fun nv iv => ∃ q : Nat, q ≤ k / 64 ∧ iv = .int .i64 q ∧ nv = .int .i64 (cntB ws true (64 * q) : Nat)) (fun _ iv => k / 64 - (intOf iv).toNat)
    case atStart => exact ⟨0, by omega, rfl, by rw [Nat.mul_zero, cntB_0]; rfl⟩
    case round =>
      obtain ⟨q, hq, rfl, rfl⟩ := hrel
      by_cases hlt : q < k / 64
      · obtain ⟨b, off, rfl, hbB, hcells⟩ := word_at hr (by omega)
        have hcell := hcells q (by omega)
        have hx := word_lt hw q
        have HW := Lib.hid (HCW.out q 64 (by omega))
        have hbd := cntB_le ws true (64 * q)
        have hbd2 : cnt (ws.getD q 0) 64 ≤ 64 := cnt_le _ _
        have k2 := old_cell hb (show b < w.heap.size by omega) hcell
        generalize ws.getD q 0 = x at *
        have HO := Lib.hid fun W => ones_any x W hx
        obtain ⟨s, hs⟩ : ∃ s, s = cnt x 64 := ⟨_, rfl⟩
        rw [faced_true] at HW
        rw [← hs] at HO HW hbd2
        have HB := Lib.hid hb
        clear hcells hcell hs
        go_wp2_with (go_at_call 87; refine (HO.out _).mono ?_; rintro e w2 ⟨rfl, rfl⟩)
        go_round
        case rel => exact ⟨q + 1, by omega, by go_num, vint (by rw [show 64 * (q + 1) = 64 * q + 64 from by omega, HW.out]; simp)⟩
        case measure => simp [intOf]; omega
      · obtain rfl : q = k / 64 := by omega
        have hbd := cntB_le ws true (64 * (k / 64))
        by_cases h0 : k % 64 = 0
        · have HE : Hid (cntB ws true (64 * (k / 64)) = cntB ws true k) := Lib.hid (by rw [show 64 * (k / 64) = k from by omega])
          clear hr hw hlt
          go_wp2
          go_ret2
          exact ⟨ret2 (vnat HE.out) rfl, below_box hb⟩
        · have hp : 0 < k % 64 := by omega
          have hl2 := HKL.out hp
          obtain ⟨b, off, rfl, hbB, hcells⟩ := word_at hr (by omega)
          have hcell := hcells (k / 64) (by omega)
          have hx := word_lt hw (k / 64)
          have HW := Lib.hid (HCW.out (k / 64) (k % 64) (by omega))
          have k2 := old_cell hb (show b < w.heap.size by omega) hcell
          generalize ws.getD (k / 64) 0 = x at *
          have hbd2 : cnt x (k % 64) ≤ 64 := Nat.le_trans (cnt_le _ _) (by omega)
          have HO := Lib.hid fun W => rank_yes x (k % 64) W hx (by omega)
          obtain ⟨s, hs⟩ : ∃ s, s = cnt x (k % 64) := ⟨_, rfl⟩
          rw [faced_true] at HW
          rw [← hs] at HO HW hbd2
          have HB := Lib.hid hb
          clear hcells hcell hs hlt
          go_wp2_with (go_at_call 88; refine (HO.out _).mono ?_; rintro e w2 ⟨rfl, rfl⟩)
          go_ret2
          exact ⟨ret2 (vint (by have := HW.out; rw [show 64 * (k / 64) + k % 64 = k from by omega] at this; rw [this]; simp)) rfl, below_box HB.out⟩
end Go.Proofs.Ytdmfhpigchbcbaa
