/-
  Contracts of wave.Kth and of the reference's WaveKth, and the walk of the law WaveKths. Conditions: the arguments can be read as data.
-/
import Derived.Test.YtdmfhpigchbcbaaMTopMax39
namespace Go.Proofs.Ytdmfhpigchbcbaa
open Go Go.RowKit Go.Dam
set_option linter.unusedVariables false
/-- What Kth answers. -/
def WKthR (rs : List (Int × List Nat)) (k cc : Int) (n p q : Nat) (r ec : Int) : Prop :=
  (cc ≠ 0 ∧ r = 0 ∧ ec = cc) ∨ (cc = 0 ∧ k < 0 ∧ r = 0 ∧ ec = 2) ∨ (cc = 0 ∧ ¬ k < 0 ∧ ((q - p : Nat) : Int) ≤ k ∧ r = 0 ∧ ec = 7) ∨ (cc = 0 ∧ ∃ j : Nat, k = j ∧ j < q - p ∧ r = (sW rs n p q).getD j 0 ∧ ec = 0)
theorem WKthR.ex (rs : List (Int × List Nat)) (k cc : Int) (n p q : Nat) : ∃ r ec, WKthR rs k cc n p q r ec := by
  by_cases h : cc = 0
  · by_cases h1 : k < 0
    · exact ⟨_, _, .inr (.inl ⟨h, h1, rfl, rfl⟩)⟩
    · by_cases h2 : ((q - p : Nat) : Int) ≤ k
      · exact ⟨_, _, .inr (.inr (.inl ⟨h, h1, h2, rfl, rfl⟩))⟩
      · exact ⟨_, _, .inr (.inr (.inr ⟨h, k.toNat, by omega, by omega, rfl, rfl⟩))⟩
  · exact ⟨_, _, .inl ⟨h, rfl, rfl⟩⟩
set_option maxRecDepth 100000 in
set_option maxHeartbeats 2000000 in
theorem waveKthP (v : Value) (rs : List (Int × List Nat)) (a b k cc r ec : Int) (n p q : Nat) (w : World) (B : Nat) (hB : B ≤ w.heap.size) (h : IsWave w B v rs) (ha : I64 a) (hb : I64 b) (hk : I64 k) (hR : RangeR rs a b cc n p q) (hr : WKthR rs k cc n p q r ec) :
    Calls Try.prog 11 #[v, .int .i64 a, .int .i64 b, .int .i64 k] w fun e w' => e = .returned (.tuple #[.int .i64 r, .int .i64 ec]) ∧ Below w.heap.size w w' := by
  have HF := Lib.hid fun W (hW : Below w.heap.size w W) => waveFault_any v rs a b cc W B (Nat.le_trans hB hW.size) (h.below (hW.mono hB)) ha hb hR.fault
  have HBl := Lib.hid fun n a b k hmw hln hab hbn hk W (hW : Below w.heap.size w W) => waveKth_any v rs n a b k W B (Nat.le_trans hB hW.size) (h.below (hW.mono hB)) hmw hln hab hbn hk
  obtain ⟨s, rfl, h⟩ := h
  obtain ⟨A, c, vs, rfl, hc, hm, hn, _, _⟩ := h
  have HA := Lib.hid ((Below.refl w.heap.size w).alloc (Nat.le_refl _) (.cells #[.slice A rs.length c] 34))
  unfold I64 at ha hb hk
  rcases hR with ⟨_, h0⟩ | ⟨hmw, rfl, hln, rfl, rfl, hpq, hqn⟩
  · rcases hr with ⟨_, rfl, rfl⟩ | ⟨h1, _⟩ | ⟨h1, _⟩ | ⟨h1, _⟩
    · have hd : (ec != 0) = true := by simpa using h0
      clear HBl h0
      go_enter Try.func11, Try.ntmps11
      go_wp2_with (go_at_call 25; refine (HF.out _ HA.out).mono ?_; rintro e w1 ⟨rfl, hb⟩)
      go_ret2
      exact ⟨rfl, below_box hb⟩
    · exact absurd h1 h0
    · exact absurd h1 h0
    · exact absurd h1 h0
  · rcases hr with ⟨h1, _⟩ | ⟨_, h2, rfl, rfl⟩ | ⟨_, h2, h3, rfl, rfl⟩ | ⟨_, j, rfl, hj, rfl, rfl⟩
    · exact absurd rfl h1
    · clear HBl hmw hln
      go_enter Try.func11, Try.ntmps11
      go_wp2_with (go_at_call 25; refine (HF.out _ HA.out).mono ?_; rintro e w1 ⟨rfl, hb⟩)
      go_ret2
      exact ⟨rfl, below_box hb⟩
    · have h4 : (q : Int) - (p : Int) ≤ k := by omega
      clear HBl hmw hln
      go_enter Try.func11, Try.ntmps11
      go_wp2_with (go_at_call 25; refine (HF.out _ HA.out).mono ?_; rintro e w1 ⟨rfl, hb⟩)
      go_ret2
      exact ⟨rfl, below_box hb⟩
    · have HC := Lib.hid (HBl.out n p q j hmw hln hpq hqn hj)
      have h2 : ¬ (j : Int) < 0 := by omega
      have h4 : ¬ (q : Int) - (p : Int) ≤ (j : Int) := by omega
      generalize (sW rs n p q).getD j 0 = R at *
      clear HBl hmw hln
      go_enter Try.func11, Try.ntmps11
      go_wp2_with (first
        | (go_at_call 25; refine (HF.out _ HA.out).mono ?_; rintro e w1 ⟨rfl, hb⟩; have k0 := box1' hb; have HB1 := Lib.hid (below_box hb); clear hb)
        | (go_at_call 26; refine (HC.out _ HB1.out).mono ?_; rintro e w2 ⟨rfl, hb2⟩))
      go_ret2
      exact ⟨rfl, HB1.out.trans (hb2.mono HB1.out.size)⟩
end Go.Proofs.Ytdmfhpigchbcbaa
