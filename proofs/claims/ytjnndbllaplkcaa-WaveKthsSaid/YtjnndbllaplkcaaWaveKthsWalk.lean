/-
  Contracts of wave.Kth and of the reference's WaveKth, and the walk of the law WaveKths. Conditions: the arguments can be read as data.
-/
import Derived.Test.YtjnndbllaplkcaaWaveRange
namespace Go.Proofs.Ytjnndbllaplkcaa
open Go Go.RowKit Go.Dam
set_option linter.unusedVariables false
/-- What Kth answers. -/
def WKthR (rs : List (Int × List Nat)) (k cc : Int) (n p q : Nat) (r ec : Int) : Prop :=
  (cc ≠ 0 ∧ r = 0 ∧ ec = cc) ∨ (cc = 0 ∧ k < 0 ∧ r = 0 ∧ ec = 2) ∨ (cc = 0 ∧ ¬ k < 0 ∧ ((q - p : Nat) : Int) ≤ k ∧ r = 0 ∧ ec = 7) ∨ (cc = 0 ∧ ∃ j : Nat, k = j ∧ j < q - p ∧ r = (sW rs n p q).getD j 0 ∧ ec = 0)
theorem WKthR.ex (rs : List (Int × List Nat)) (k cc : Int) (n p q : Nat) : ∃ r ec, WKthR rs k cc n p q r ec := by
  by_cases h : cc = 0
  · by_cases h1 : k < 0
    · exact ⟨_, _, .inr (.inl ⟨h, h1, rfl, rfl⟩)⟩
    · by_cases h2 : ((q - p : Nat) : Int) ≤ k
      · exact ⟨_, _, .inr (.inr (.inl ⟨h, h1, h2, rfl, rfl⟩))⟩
      · exact ⟨_, _, .inr (.inr (.inr ⟨h, k.toNat, by omega, by omega, rfl, rfl⟩))⟩
  · exact ⟨_, _, .inl ⟨h, rfl, rfl⟩⟩
set_option maxRecDepth 100000 in
set_option maxHeartbeats 2000000 in
theorem waveKthP (v : Value) (rs : List (Int × List Nat)) (a b k cc r ec : Int) (n p q : Nat) (w : World) (B : Nat) (hB : B ≤ w.heap.size) (h : IsWave w B v rs) (ha : I64 a) (hb : I64 b) (hk : I64 k) (hR : RangeR rs a b cc n p q) (hr : WKthR rs k cc n p q r ec) :
    Calls Try.prog 20 #[v, .int .i64 a, .int .i64 b, .int .i64 k] w fun e w' => e = .returned (.tuple #[.int .i64 r, .int .i64 ec]) ∧ Below w.heap.size w w' := by
  have HF := Lib.hid fun W (hW : Below w.heap.size w W) => waveFault_any v rs a b cc W B (Nat.le_trans hB hW.size) (h.below (hW.mono hB)) ha hb hR.fault
  have HBl := Lib.hid fun n a b k hmw hln hab hbn hk W (hW : Below w.heap.size w W) => waveKth_any v rs n a b k W B (Nat.le_trans hB hW.size) (h.below (hW.mono hB)) hmw hln hab hbn hk
  obtain ⟨s, rfl, h⟩ := h
  obtain ⟨A, c, vs, rfl, hc, hm, hn, _, _⟩ := h
  have HA := Lib.hid ((Below.refl w.heap.size w).alloc (Nat.le_refl _) (.cells #[.slice A rs.length c] 25))
  unfold I64 at ha hb hk
  rcases hR with ⟨_, h0⟩ | ⟨hmw, rfl, hln, rfl, rfl, hpq, hqn⟩
  · rcases hr with ⟨_, rfl, rfl⟩ | ⟨h1, _⟩ | ⟨h1, _⟩ | ⟨h1, _⟩
    · have hd : (ec != 0) = true := by simpa using h0
      clear HBl h0
      go_enter Try.func20, Try.ntmps20
      go_wp2_with (go_at_call 47; refine (HF.out _ HA.out).mono ?_; rintro e w1 ⟨rfl, hb⟩)
      go_ret2
      exact ⟨rfl, below_box hb⟩
    · exact absurd h1 h0
    · exact absurd h1 h0
    · exact absurd h1 h0
  · rcases hr with ⟨h1, _⟩ | ⟨_, h2, rfl, rfl⟩ | ⟨_, h2, h3, rfl, rfl⟩ | ⟨_, j, rfl, hj, rfl, rfl⟩
    · exact absurd rfl h1
    · clear HBl hmw hln
      go_enter Try.func20, Try.ntmps20
      go_wp2_with (go_at_call 47; refine (HF.out _ HA.out).mono ?_; rintro e w1 ⟨rfl, hb⟩)
      go_ret2
      exact ⟨rfl, below_box hb⟩
    · have h4 : (q : Int) - (p : Int) ≤ k := by omega
      clear HBl hmw hln
      go_enter Try.func20, Try.ntmps20
      go_wp2_with (go_at_call 47; refine (HF.out _ HA.out).mono ?_; rintro e w1 ⟨rfl, hb⟩)
      go_ret2
      exact ⟨rfl, below_box hb⟩
    · have HC := Lib.hid (HBl.out n p q j hmw hln hpq hqn hj)
      have h2 : ¬ (j : Int) < 0 := by omega
      have h4 : ¬ (q : Int) - (p : Int) ≤ (j : Int) := by omega
      generalize (sW rs n p q).getD j 0 = R at *
      clear HBl hmw hln
      go_enter Try.func20, Try.ntmps20
      go_wp2_with (first
        | (go_at_call 47; refine (HF.out _ HA.out).mono ?_; rintro e w1 ⟨rfl, hb⟩; have k0 := box1' hb; have HB1 := Lib.hid (below_box hb); clear hb)
        | (go_at_call 50; refine (HC.out _ HB1.out).mono ?_; rintro e w2 ⟨rfl, hb2⟩))
      go_ret2
      exact ⟨rfl, HB1.out.trans (hb2.mono HB1.out.size)⟩
set_option maxRecDepth 100000 in
set_option maxHeartbeats 2000000 in
theorem refWaveKthP (v : Value) (rs : List (Int × List Nat)) (a b k cc r ec : Int) (n p q : Nat) (w : World) (B : Nat) (hB : B ≤ w.heap.size) (h : IsWave w B v rs) (ha : I64 a) (hb : I64 b) (hk : I64 k) (hR : RangeR rs a b cc n p q) (hr : WKthR rs k cc n p q r ec) :
    Calls Try.prog 21 #[v, .int .i64 a, .int .i64 b, .int .i64 k] w fun e w' => e = .returned (.tuple #[.int .i64 r, .int .i64 ec]) ∧ Below w.heap.size w w' := by
  have HS := Lib.hid fun W (hW : Below w.heap.size w W) => waveSorted_any v rs a b _ cc W B (Nat.le_trans hB hW.size) (h.below (hW.mono hB)) ha hb hR.sorted
  obtain ⟨s, rfl, h⟩ := h
  obtain ⟨A, c, vs, rfl, hc, hm, hn, _, _⟩ := h
  have HA := Lib.hid ((Below.refl w.heap.size w).alloc (Nat.le_refl _) (.cells #[.slice A rs.length c] 25))
  unfold I64 at ha hb hk
  rcases hR with ⟨_, h0⟩ | ⟨hmw, rfl, hln, rfl, rfl, hpq, hqn⟩
  · rcases hr with ⟨_, rfl, rfl⟩ | ⟨h1, _⟩ | ⟨h1, _⟩ | ⟨h1, _⟩
    · have hd : (ec != 0) = true := by simpa using h0
      clear h0
      go_enter Try.func21, Try.ntmps21
      go_wp2_with (go_at_call 49; refine (HS.out _ HA.out).mono ?_; rintro e w1 ⟨u, rfl, hu, hb⟩; obtain ⟨Au, cu, rfl, _, _, _, hru, _⟩ := hu)
      go_ret2
      exact ⟨rfl, below_box hb⟩
    · exact absurd h1 h0
    · exact absurd h1 h0
    · exact absurd h1 h0
  · rw [if_pos rfl] at HS
    have HSl := Lib.hid (sW_length rs hpq hqn)
    unfold WKthR at hr
    generalize sW rs n p q = S at *
    clear hmw hln
    rcases hr with ⟨h1, _⟩ | ⟨_, h2, rfl, rfl⟩ | ⟨_, h2, h3, rfl, rfl⟩ | ⟨_, j, rfl, hj, hjr, rfl⟩
    · exact absurd rfl h1
    · go_enter Try.func21, Try.ntmps21
      go_wp2_with (go_at_call 49; refine (HS.out _ HA.out).mono ?_; rintro e w1 ⟨u, rfl, hu, hb⟩; obtain ⟨Au, cu, rfl, _, _, _, hru, _⟩ := hu)
      go_ret2
      exact ⟨rfl, below_box hb⟩
    · have h4 : (S.length : Int) ≤ k := by rw [HSl.out]; exact h3
      clear h3
      go_enter Try.func21, Try.ntmps21
      go_wp2_with (go_at_call 49; refine (HS.out _ HA.out).mono ?_; rintro e w1 ⟨u, rfl, hu, hb⟩; obtain ⟨Au, cu, rfl, _, _, _, hru, _⟩ := hu)
      go_ret2
      exact ⟨rfl, below_box hb⟩
    · have h2 : ¬ (j : Int) < 0 := by omega
      have hjS : j < S.length := by rw [HSl.out]; exact hj
      have h4 : ¬ (S.length : Int) ≤ (j : Int) := by omega
      subst hjr
      generalize hjr : S.getD j 0 = R at *
      have HJ := Lib.hid hjr
      clear hjr hj
      go_enter Try.func21, Try.ntmps21
      go_wp2_with (go_at_call 49; refine (HS.out _ HA.out).mono ?_; rintro e w1 ⟨u, rfl, hu, hb⟩; obtain ⟨Au, cu, rfl, _, _, _, hru, _⟩ := hu; obtain ⟨bu, offu, rfl, _, hcell⟩ := ints_cells hru (by omega); have kc := hcell j hjS; rw [HJ.out] at kc; clear hcell hru)
      go_ret2
      exact ⟨rfl, below_box hb⟩
theorem waveKths_walk (v u1 u2 u3 : Value) (w : World) (h : ∃ rs, IsWave w w.heap.size v rs) (h1 : ∃ x : Int, u1 = .int .i64 x ∧ I64 x) (h2 : ∃ x : Int, u2 = .int .i64 x ∧ I64 x) (h3 : ∃ x : Int, u3 = .int .i64 x ∧ I64 x) :
    Calls Try.prog 5 #[v, u1, u2, u3] w fun e w' => e = .returned (.bool true) ∧ Below w.heap.size w w' := by
  obtain ⟨rs, h⟩ := h
  obtain ⟨a, rfl, ha⟩ := h1
  obtain ⟨b, rfl, hb⟩ := h2
  obtain ⟨k, rfl, hk⟩ := h3
  obtain ⟨cc, n, p, q, hR⟩ := RangeR.ex rs a b
  obtain ⟨r, ec, hr⟩ := WKthR.ex rs k cc n p q
  have C1 := Lib.hid fun W (hW : Below w.heap.size w W) => waveKthP v rs a b k cc r ec n p q W _ hW.size (h.below hW) ha hb hk hR hr
  have C2 := Lib.hid fun W (hW : Below w.heap.size w W) => refWaveKthP v rs a b k cc r ec n p q W _ hW.size (h.below hW) ha hb hk hR hr
  obtain ⟨s, rfl, h⟩ := h
  obtain ⟨A, c, vs, rfl, hc, hm, hn, _, _⟩ := h
  unfold I64 at ha hb hk
  clear hR hr
  go_enter Try.func5, Try.ntmps5
  go_wp2_with (first
    | (go_at_call 20; refine (C1.out _ ((Below.refl _ _).alloc (Nat.le_refl _) _)).mono ?_; rintro e w1 ⟨rfl, hb⟩; have k0 := box1' hb; have HB := Lib.hid (below_box hb); clear hb)
    | (go_at_call 21; refine (C2.out _ HB.out).mono ?_; rintro e w2 ⟨rfl, hb2⟩))
  all_goals (go_ret; exact ⟨ret_bool (by simp), HB.out.trans (hb2.mono HB.out.size)⟩)
end Go.Proofs.Ytjnndbllaplkcaa
