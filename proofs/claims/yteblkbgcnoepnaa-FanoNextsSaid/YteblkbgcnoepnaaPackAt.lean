/-
  Contracts of pack.At and of the reference PackAt. Conditions: the numbers can be read as data.
-/
import Derived.Test.YteblkbgcnoepnaaRefPackMay
import Derived.Test.YteblkbgcnoepnaaPackGet
namespace Go.Proofs.Yteblkbgcnoepnaa
open Go Go.RowKit Go.Dam
set_option linter.unusedVariables false

/-- What At answers: a number, and a code. -/
def PackAtR (n m : Int) (ws : List Nat) (i : Int) (r c : Int) : Prop :=
  (mayPacked n m ws = false ∧ r = 0 ∧ c = 4) ∨ (mayPacked n m ws = true ∧ (i < 0 ∨ n ≤ i) ∧ r = 0 ∧ c = 2) ∨ (mayPacked n m ws = true ∧ 0 ≤ i ∧ i < n ∧ r = (numAt ws (i.toNat * m.toNat) m.toNat : Nat) ∧ c = 0)
theorem PackAtR.ex (n m : Int) (ws : List Nat) (i : Int) : ∃ r c, PackAtR n m ws i r c := by
  cases hm : mayPacked n m ws with
  | false => exact ⟨_, _, .inl ⟨hm, rfl, rfl⟩⟩
  | true =>
    by_cases h : i < 0 ∨ n ≤ i
    · exact ⟨_, _, .inr (.inl ⟨hm, h, rfl, rfl⟩)⟩
    · exact ⟨_, _, .inr (.inr ⟨hm, by omega, by omega, rfl, rfl⟩)⟩
theorem packed_facts {n m : Int} {ws : List Nat} (h : mayPacked n m ws = true) : 0 ≤ n ∧ n ≤ 300 ∧ 0 ≤ m ∧ m ≤ 62 ∧ (ws.length : Int) = (n * m + 63) / 64 := by
  have := mayPacked_iff.1 h
  unfold MayPacked at this
  exact ⟨this.1, this.2.1, this.2.2.1, this.2.2.2.1, this.2.2.2.2.1⟩
theorem place_bd {n m i : Nat} (hn : n ≤ 300) (hm : m ≤ 62) (hi : i < n) : i * m + m ≤ n * m ∧ n * m ≤ 18600 := by
  have h1 : (i + 1) * m ≤ n * m := Nat.mul_le_mul_right _ hi
  have h2 : n * m ≤ 300 * 62 := Nat.mul_le_mul hn hm
  rw [Nat.succ_mul] at h1
  exact ⟨h1, h2⟩
set_option maxHeartbeats 1000000 in
theorem packAt_any (v : Value) (n m i : Int) (ws : List Nat) (r cc : Int) (w : World) (B : Nat) (hB : B ≤ w.heap.size) (h : IsPacked w B v n m ws) (hi64 : I64 i) (hR : PackAtR n m ws i r cc) :
    Calls Try.prog 88 #[v, .int .i64 i] w fun e w' => e = .returned (.tuple #[.int .i64 r, .int .i64 cc]) ∧ Below w.heap.size w w' := by
  obtain ⟨s, rfl, hs⟩ : ∃ s, v = .agg #[.int .i64 n, .int .i64 m, s] ∧ IsWords w B s ws := by
    obtain ⟨s, e, _, _, hs⟩ := h
    exact ⟨s, e, hs⟩
  have HH := Lib.hid h
  clear h
  unfold I64 at hi64
  rcases hR with ⟨hm, rfl, rfl⟩ | ⟨hm, hi, rfl, rfl⟩ | ⟨hm, h1, h2, rfl, rfl⟩
  · clear hs
    go_enter Try.func88, Try.ntmps88
    go_wp2_with (go_at_call 87; refine (packMay_any _ n m ws _ B (box_le hB) (HH.out.below ((Below.refl _ _).alloc hB _))).mono ?_; rintro e w1 ⟨rfl, hb⟩)
    go_ret2
    exact ⟨rfl, below_box hb⟩
  · clear hs
    rcases hi with hi | hi
    · go_enter Try.func88, Try.ntmps88
      go_wp2_with (go_at_call 87; refine (packMay_any _ n m ws _ B (box_le hB) (HH.out.below ((Below.refl _ _).alloc hB _))).mono ?_; rintro e w1 ⟨rfl, hb⟩; obtain ⟨k0, k1, k2⟩ := box3 hb)
      go_ret2
      exact ⟨rfl, below_box hb⟩
    · have h0 := (packed_facts hm).1
      have hi' : ¬ i < 0 := by omega
      go_enter Try.func88, Try.ntmps88
      go_wp2_with (go_at_call 87; refine (packMay_any _ n m ws _ B (box_le hB) (HH.out.below ((Below.refl _ _).alloc hB _))).mono ?_; rintro e w1 ⟨rfl, hb⟩; obtain ⟨k0, k1, k2⟩ := box3 hb)
      go_ret2
      exact ⟨rfl, below_box hb⟩
  · obtain ⟨h3, h4, h5, h6, h7⟩ := packed_facts hm
    obtain ⟨k, rfl⟩ := Int.eq_ofNat_of_zero_le h1
    obtain ⟨n, rfl⟩ := Int.eq_ofNat_of_zero_le h3
    obtain ⟨m, rfl⟩ := Int.eq_ofNat_of_zero_le h5
    obtain ⟨q1, q2⟩ := place_bd (n := n) (m := m) (i := k) (by omega) (by omega) (by omega)
    simp only [Int.toNat_natCast]
    have hcast : (k : Int) * (m : Int) = ((k * m : Nat) : Int) := by simp
    have hcast' : (n : Int) * (m : Int) = ((n * m : Nat) : Int) := by simp
    rw [hcast'] at h7
    have b1 : 0 ≤ (k : Int) * (m : Int) := by rw [hcast]; omega
    have b2 : (k : Int) * (m : Int) ≤ 18600 := by rw [hcast]; omega
    have HC := Lib.hid hcast
    have HS := Lib.hid hs
    have hlen : k * m + m ≤ 64 * ws.length := by omega
    have hkm : k * m ≤ 18600 := by omega
    clear hcast hcast' h7 hs
    go_enter Try.func88, Try.ntmps88
    go_wp2_with (first
      | (go_at_call 87; refine (packMay_any _ n m ws _ B (box_le hB) (HH.out.below ((Below.refl _ _).alloc hB _))).mono ?_; rintro e w1 ⟨rfl, hb⟩; obtain ⟨k0, k1, k2⟩ := box3 hb; have HB := Lib.hid hb; clear hb)
      | (go_at_call 89; rw [HC.out]; refine (get_any _ (k * m) m ws _ B (HS.out.below ((below_box HB.out).mono hB)) (by omega) hlen hkm).mono ?_; rintro e w2 ⟨rfl, rfl⟩))
    go_ret2
    exact ⟨rfl, below_box HB.out⟩
set_option maxHeartbeats 1000000 in
theorem refPackAt_any (v : Value) (n m i : Int) (ws : List Nat) (r cc : Int) (w : World) (B : Nat) (hB : B ≤ w.heap.size) (h : IsPacked w B v n m ws) (hi64 : I64 i) (hR : PackAtR n m ws i r cc) :
    Calls Try.prog 61 #[v, .int .i64 i] w fun e w' => e = .returned (.tuple #[.int .i64 r, .int .i64 cc]) ∧ Below w.heap.size w w' := by
  obtain ⟨s, rfl, hs⟩ : ∃ s, v = .agg #[.int .i64 n, .int .i64 m, s] ∧ IsWords w B s ws := by
    obtain ⟨s, e, _, _, hs⟩ := h
    exact ⟨s, e, hs⟩
  have HH := Lib.hid h
  clear h
  unfold I64 at hi64
  rcases hR with ⟨hm, rfl, rfl⟩ | ⟨hm, hi, rfl, rfl⟩ | ⟨hm, h1, h2, rfl, rfl⟩
  · clear hs
    go_enter Try.func61, Try.ntmps61
    go_wp2_with (go_at_call 60; refine (refPackMay_any _ n m ws _ B (box_le hB) (HH.out.below ((Below.refl _ _).alloc hB _))).mono ?_; rintro e w1 ⟨rfl, hb⟩)
    go_ret2
    exact ⟨rfl, below_box hb⟩
  · clear hs
    rcases hi with hi | hi
    · go_enter Try.func61, Try.ntmps61
      go_wp2_with (go_at_call 60; refine (refPackMay_any _ n m ws _ B (box_le hB) (HH.out.below ((Below.refl _ _).alloc hB _))).mono ?_; rintro e w1 ⟨rfl, hb⟩; obtain ⟨k0, k1, k2⟩ := box3 hb)
      go_ret2
      exact ⟨rfl, below_box hb⟩
    · have h0 := (packed_facts hm).1
      have hi' : ¬ i < 0 := by omega
      go_enter Try.func61, Try.ntmps61
      go_wp2_with (go_at_call 60; refine (refPackMay_any _ n m ws _ B (box_le hB) (HH.out.below ((Below.refl _ _).alloc hB _))).mono ?_; rintro e w1 ⟨rfl, hb⟩; obtain ⟨k0, k1, k2⟩ := box3 hb)
      go_ret2
      exact ⟨rfl, below_box hb⟩
  · obtain ⟨h3, h4, h5, h6, h7⟩ := packed_facts hm
    obtain ⟨k, rfl⟩ := Int.eq_ofNat_of_zero_le h1
    obtain ⟨n, rfl⟩ := Int.eq_ofNat_of_zero_le h3
    obtain ⟨m, rfl⟩ := Int.eq_ofNat_of_zero_le h5
    obtain ⟨q1, q2⟩ := place_bd (n := n) (m := m) (i := k) (by omega) (by omega) (by omega)
    simp only [Int.toNat_natCast]
    have hcast : (k : Int) * (m : Int) = ((k * m : Nat) : Int) := by simp
    have hcast' : (n : Int) * (m : Int) = ((n * m : Nat) : Int) := by simp
    rw [hcast'] at h7
    have hnk : decide (n ≤ k) = false := by simp; omega
    have hk0 : decide ((k : Int) < 0) = false := by simp
    obtain ⟨t, ht⟩ : ∃ t, t = k * m := ⟨_, rfl⟩
    rw [← ht] at hcast q1 ⊢
    have hlen : t + m ≤ 64 * ws.length := by omega
    have hkm : t ≤ 18600 := by omega
    clear hcast' h7 ht
    obtain ⟨A, c, rfl, hc, hcm, hl, hr, hw⟩ := hs
    go_enter Try.func61, Try.ntmps61
    go_wp2_with (go_at_call 60; refine (refPackMay_any _ n m ws _ B (box_le hB) (HH.out.below ((Below.refl _ _).alloc hB _))).mono ?_; rintro e w1 ⟨rfl, hb⟩; obtain ⟨k0, k1, k2⟩ := box3 hb; have HB := Lib.hid hb; clear hb)
    have hbig := HB.out.size
    have hzw := size_box HB.out
    go_loop [6, 7] (fun nv kv => ∃ j : Nat, j ≤ m ∧ kv = .int .i64 j ∧ nv = .int .i64 (numAt ws t j : Nat)) (fun _ kv => m - (intOf kv).toNat)
    case atStart => exact ⟨0, by omega, rfl, by rw [numAt_0']; rfl⟩
    case round =>
      obtain ⟨j, hj, rfl, rfl⟩ := hrel
      by_cases hlt : j < m
      · obtain ⟨b, off, rfl, hbB, hcells⟩ := word_at hr (by omega)
        have hcell := hcells ((t + j) / 64) (by omega)
        have hx := word_lt hw ((t + j) / 64)
        have hbit := bit_of_word' ws (t + j)
        have hst := numAt_succ' ws t j
        have hl1 := numAt_lt ws t (j + 1)
        have hl0 := numAt_lt ws t j
        have hp1 : 2 ^ (j + 1) ≤ 2 ^ 62 := Nat.pow_le_pow_right (by decide) (by omega)
        have hpw := pow_i64 j (by omega)
        generalize ws.getD ((t + j) / 64) 0 = x at *
        have k3 := old_cell HB.out (b := b) (k := off + (t + j) / 64) (by omega) hcell
        have hil : (t + j) / 64 < ws.length := by omega
        have hb6 := fun W => bitOf_any x ((t + j) % 64) W hx (by omega)
        rw [hbit] at hb6
        have HB6 := Lib.hid hb6
        clear hcells hcell hb6 hbit
        cases ht : bitAt ws (t + j) with
        | true =>
          rw [ht] at hst HB6
          simp only [if_true] at hst
          obtain ⟨q, hq⟩ : ∃ q : Nat, q = 2 ^ j := ⟨_, rfl⟩
          rw [← hq] at hst hpw
          have HST := Lib.hid hst
          have hle : numAt ws t j + q ≤ 4611686018427387904 := by rw [← hst]; omega
          clear hst ht hq
          go_wp2_with (go_at_call 71; refine (HB6.out _).mono ?_; rintro e w' ⟨rfl, rfl⟩)
          go_round
          case rel => exact ⟨j + 1, by omega, by go_num, by rw [HST.out]; go_num⟩
          case measure => simp [intOf]; omega
        | false =>
          rw [ht] at hst HB6
          simp only [Bool.false_eq_true, if_false, Nat.add_zero] at hst
          have HST := Lib.hid hst
          clear hst ht
          go_wp2_with (go_at_call 71; refine (HB6.out _).mono ?_; rintro e w' ⟨rfl, rfl⟩)
          go_round
          case rel => exact ⟨j + 1, by omega, by go_num, by rw [HST.out]⟩
          case measure => simp [intOf]; omega
      · obtain rfl : j = m := by omega
        go_wp2
        go_ret2
        exact ⟨rfl, below_box HB.out⟩
end Go.Proofs.Yteblkbgcnoepnaa
