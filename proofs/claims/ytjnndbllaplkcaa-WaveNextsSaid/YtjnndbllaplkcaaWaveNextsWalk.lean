/-
  Contracts of wave.Next and of the reference's WaveNext, and the walk of the law WaveNexts. Conditions: the arguments can be read as data.
-/
import Derived.Test.YtjnndbllaplkcaaWaveRange
namespace Go.Proofs.Ytjnndbllaplkcaa
open Go Go.RowKit Go.Dam
set_option linter.unusedVariables false
/-- What Next answers. -/
def WNextR (rs : List (Int × List Nat)) (x cc : Int) (n p q : Nat) (r ec : Int) : Prop :=
  (cc ≠ 0 ∧ r = 0 ∧ ec = cc) ∨ (cc = 0 ∧ q - p ≤ (sW rs n p q).countP (fun z => decide (z < x)) ∧ r = 0 ∧ ec = 7) ∨ (cc = 0 ∧ (sW rs n p q).countP (fun z => decide (z < x)) < q - p ∧ r = (sW rs n p q).getD ((sW rs n p q).countP (fun z => decide (z < x))) 0 ∧ ec = 0)
theorem WNextR.ex (rs : List (Int × List Nat)) (x cc : Int) (n p q : Nat) : ∃ r ec, WNextR rs x cc n p q r ec := by
  by_cases h : cc = 0
  · by_cases h1 : q - p ≤ (sW rs n p q).countP (fun z => decide (z < x))
    · exact ⟨_, _, .inr (.inl ⟨h, h1, rfl, rfl⟩)⟩
    · exact ⟨_, _, .inr (.inr ⟨h, by omega, rfl, rfl⟩)⟩
  · exact ⟨_, _, .inl ⟨h, rfl, rfl⟩⟩
set_option maxRecDepth 100000 in
set_option maxHeartbeats 2000000 in
theorem waveNextP (v : Value) (rs : List (Int × List Nat)) (a b x cc r ec : Int) (n p q : Nat) (w : World) (B : Nat) (hB : B ≤ w.heap.size) (h : IsWave w B v rs) (ha : I64 a) (hb : I64 b) (hx : I64 x) (hR : RangeR rs a b cc n p q) (hr : WNextR rs x cc n p q r ec) :
    Calls Try.prog 22 #[v, .int .i64 a, .int .i64 b, .int .i64 x] w fun e w' => e = .returned (.tuple #[.int .i64 r, .int .i64 ec]) ∧ Below w.heap.size w w' := by
  have HF := Lib.hid fun W (hW : Below w.heap.size w W) => waveFault_any v rs a b cc W B (Nat.le_trans hB hW.size) (h.below (hW.mono hB)) ha hb hR.fault
  have HBl := Lib.hid fun n a b hmw hln hab hbn W (hW : Below w.heap.size w W) => waveBelow_any v rs n a b x W B (Nat.le_trans hB hW.size) (h.below (hW.mono hB)) hmw hln hab hbn hx
  have HKt := Lib.hid fun n a b k hmw hln hab hbn hk W (hW : Below w.heap.size w W) => waveKth_any v rs n a b k W B (Nat.le_trans hB hW.size) (h.below (hW.mono hB)) hmw hln hab hbn hk
  obtain ⟨s, rfl, h⟩ := h
  obtain ⟨A, c, vs, rfl, hc, hm, hn, _, _⟩ := h
  have HA := Lib.hid ((Below.refl w.heap.size w).alloc (Nat.le_refl _) (.cells #[.slice A rs.length c] 25))
  unfold I64 at ha hb hx
  rcases hR with ⟨_, h0⟩ | ⟨hmw, rfl, hln, rfl, rfl, hpq, hqn⟩
  · rcases hr with ⟨_, rfl, rfl⟩ | ⟨h1, _⟩ | ⟨h1, _⟩
    · have hd : (ec != 0) = true := by simpa using h0
      clear HBl HKt h0
      go_enter Try.func22, Try.ntmps22
      go_wp2_with (go_at_call 47; refine (HF.out _ HA.out).mono ?_; rintro e w1 ⟨rfl, hb⟩)
      go_ret2
      exact ⟨rfl, below_box hb⟩
    · exact absurd h1 h0
    · exact absurd h1 h0
  · have HC := Lib.hid (HBl.out n p q hmw hln hpq hqn)
    have HKk := Lib.hid fun k hk => HKt.out n p q k hmw hln hpq hqn hk
    unfold WNextR at hr
    generalize (sW rs n p q).countP (fun z => decide (z < x)) = K at *
    rcases hr with ⟨h1, _⟩ | ⟨_, h2, rfl, rfl⟩ | ⟨_, h2, rfl, rfl⟩
    · exact absurd rfl h1
    · have h4 : (q : Int) - (p : Int) ≤ (K : Int) := by omega
      clear HBl HKt hmw hln HKk
      go_enter Try.func22, Try.ntmps22
      go_wp2_with (first
        | (go_at_call 47; refine (HF.out _ HA.out).mono ?_; rintro e w1 ⟨rfl, hb⟩; have k0 := box1' hb; have HB1 := Lib.hid (below_box hb); clear hb)
        | (go_at_call 48; refine (HC.out _ HB1.out).mono ?_; rintro e w2 ⟨rfl, hb2⟩))
      go_ret2
      exact ⟨rfl, HB1.out.trans (hb2.mono HB1.out.size)⟩
    · have h4 : ¬ (q : Int) - (p : Int) ≤ (K : Int) := by omega
      have HKr := Lib.hid (HKk.out K h2)
      generalize (sW rs n p q).getD K 0 = R at *
      clear HBl HKt hmw hln HKk
      go_enter Try.func22, Try.ntmps22
      go_wp2_with (first
        | (go_at_call 47; refine (HF.out _ HA.out).mono ?_; rintro e w1 ⟨rfl, hb⟩; have k0 := box1' hb; have hz1 := size_box hb; have HB1 := Lib.hid (below_box hb); clear hb)
        | (go_at_call 48; refine (HC.out _ HB1.out).mono ?_; rintro e w2 ⟨rfl, hb2⟩; have k1 := (hb2.cell (p := ⟨w.heap.size, 0, none⟩) hz1).trans k0; have HB2 := Lib.hid (HB1.out.trans (hb2.mono HB1.out.size)); clear hb2)
        | (go_at_call 50; refine (HKr.out _ HB2.out).mono ?_; rintro e w3 ⟨rfl, hb3⟩))
      go_ret2
      exact ⟨rfl, HB2.out.trans (hb3.mono HB2.out.size)⟩
set_option maxRecDepth 100000 in
set_option maxHeartbeats 2000000 in
theorem refWaveNextP (v : Value) (rs : List (Int × List Nat)) (a b x cc r ec : Int) (n p q : Nat) (w : World) (B : Nat) (hB : B ≤ w.heap.size) (h : IsWave w B v rs) (ha : I64 a) (hb : I64 b) (hx : I64 x) (hR : RangeR rs a b cc n p q) (hr : WNextR rs x cc n p q r ec) :
    Calls Try.prog 23 #[v, .int .i64 a, .int .i64 b, .int .i64 x] w fun e w' => e = .returned (.tuple #[.int .i64 r, .int .i64 ec]) ∧ Below w.heap.size w w' := by
  have HS := Lib.hid fun W (hW : Below w.heap.size w W) => waveSorted_any v rs a b _ cc W B (Nat.le_trans hB hW.size) (h.below (hW.mono hB)) ha hb hR.sorted
  obtain ⟨s, rfl, h⟩ := h
  obtain ⟨A, c, vs, rfl, hc, hm, hn, _, _⟩ := h
  have HA := Lib.hid ((Below.refl w.heap.size w).alloc (Nat.le_refl _) (.cells #[.slice A rs.length c] 25))
  unfold I64 at ha hb hx
  rcases hR with ⟨_, h0⟩ | ⟨hmw, rfl, hln, rfl, rfl, hpq, hqn⟩
  · rcases hr with ⟨_, rfl, rfl⟩ | ⟨h1, _⟩ | ⟨h1, _⟩
    · have hd : (ec != 0) = true := by simpa using h0
      clear h0
      go_enter Try.func23, Try.ntmps23
      go_wp2_with (go_at_call 49; refine (HS.out _ HA.out).mono ?_; rintro e w1 ⟨u, rfl, hu, hb⟩; obtain ⟨Au, cu, rfl, _, _, _, hru, _⟩ := hu)
      go_ret2
      exact ⟨rfl, below_box hb⟩
    · exact absurd h1 h0
    · exact absurd h1 h0
  · rw [if_pos rfl] at HS
    have HSl := Lib.hid (sW_length rs hpq hqn)
    have HAh := Lib.hid (sorted_ahead (sW rs n p q) (sW_sorted rs n p q) x)
    have hKl : (sW rs n p q).countP (fun z => decide (z < x)) ≤ (sW rs n p q).length := List.countP_le_length
    have hr2 : (q - p ≤ (sW rs n p q).countP (fun z => decide (z < x)) ∧ r = 0 ∧ ec = 7) ∨ ((sW rs n p q).countP (fun z => decide (z < x)) < q - p ∧ r = (sW rs n p q).getD ((sW rs n p q).countP (fun z => decide (z < x))) 0 ∧ ec = 0) := by
      rcases hr with ⟨h1, _⟩ | ⟨_, h⟩ | ⟨_, h⟩
      · exact absurd rfl h1
      · exact .inl h
      · exact .inr h
    rw [sW_length rs hpq hqn] at hKl
    have hll : q - p ≤ 300 := by
      obtain ⟨n', hn', hn300, _⟩ := mayWave_len hmw
      omega
    generalize (sW rs n p q).countP (fun z => decide (z < x)) = K at *
    generalize sW rs n p q = S at *
    have HR2 := Lib.hid hr2
    clear hmw hln hr hr2
    go_enter Try.func23, Try.ntmps23
    go_wp2_with (go_at_call 49; refine (HS.out _ HA.out).mono ?_; rintro e w1 ⟨u, rfl, hu, hb⟩; obtain ⟨Au, cu, hveq, _, _, _, hru, _⟩ := hu; rw [HSl.out] at hveq; subst hveq; have HRu := Lib.hid hru; have HB1 := Lib.hid (below_box hb); clear hb hru)
    go_loop [26] (fun kv => ∃ k : Nat, k ≤ K ∧ kv = .int .i64 k) (fun kv => (q - p) - (intOf kv).toNat)
    case atStart => exact ⟨0, by omega, rfl⟩
    case round =>
      obtain ⟨k, hk, rfl⟩ := hrel
      by_cases hkl : k < q - p
      · obtain ⟨bu, offu, rfl, _, hcell⟩ := ints_cells HRu.out (by rw [HSl.out]; omega)
        have kc := hcell k (by rw [HSl.out]; exact hkl)
        have hah := HAh.out k (by rw [HSl.out]; exact hkl)
        clear hcell
        generalize hyy : S.getD k 0 = y at *
        have HY := Lib.hid hyy
        clear hyy
        by_cases hy : y < x
        · have hkK := hah.1 hy
          have hyd : decide (x ≤ y) = false := decide_eq_false (by omega)
          clear hah
          go_wp2_with fail
          go_round
          case rel => exact ⟨k + 1, by omega, by go_num⟩
          case measure => simp [intOf]; omega
        · obtain rfl : k = K := by
            have : ¬ k < K := fun h => hy (hah.2 h)
            omega
          have hyd : x ≤ y := by omega
          have HE : Hid (r = y ∧ ec = 0) := Lib.hid (by
            rcases HR2.out with ⟨h, _⟩ | ⟨_, h, h'⟩
            · omega
            · exact ⟨by rw [h, HY.out], h'⟩)
          clear hah
          go_wp2_with fail
          go_ret2
          exact ⟨ret2 (vint HE.out.1.symm) (vint HE.out.2.symm), HB1.out⟩
      · obtain rfl : k = K := by omega
        have hkd : ¬ (k : Int) < ((q - p : Nat) : Int) := by omega
        have HE : Hid (r = 0 ∧ ec = 7) := Lib.hid (by
          rcases HR2.out with ⟨_, h⟩ | ⟨h, _⟩
          · exact h
          · omega)
        go_wp2_with fail
        go_ret2
        exact ⟨ret2 (vint HE.out.1.symm) (vint HE.out.2.symm), HB1.out⟩
theorem waveNexts_walk (v u1 u2 u3 : Value) (w : World) (h : ∃ rs, IsWave w w.heap.size v rs) (h1 : ∃ x : Int, u1 = .int .i64 x ∧ I64 x) (h2 : ∃ x : Int, u2 = .int .i64 x ∧ I64 x) (h3 : ∃ x : Int, u3 = .int .i64 x ∧ I64 x) :
    Calls Try.prog 6 #[v, u1, u2, u3] w fun e w' => e = .returned (.bool true) ∧ Below w.heap.size w w' := by
  obtain ⟨rs, h⟩ := h
  obtain ⟨a, rfl, ha⟩ := h1
  obtain ⟨b, rfl, hb⟩ := h2
  obtain ⟨x, rfl, hx⟩ := h3
  obtain ⟨cc, n, p, q, hR⟩ := RangeR.ex rs a b
  obtain ⟨r, ec, hr⟩ := WNextR.ex rs x cc n p q
  have C1 := Lib.hid fun W (hW : Below w.heap.size w W) => waveNextP v rs a b x cc r ec n p q W _ hW.size (h.below hW) ha hb hx hR hr
  have C2 := Lib.hid fun W (hW : Below w.heap.size w W) => refWaveNextP v rs a b x cc r ec n p q W _ hW.size (h.below hW) ha hb hx hR hr
  obtain ⟨s, rfl, h⟩ := h
  obtain ⟨A, c, vs, rfl, hc, hm, hn, _, _⟩ := h
  unfold I64 at ha hb hx
  clear hR hr
  go_enter Try.func6, Try.ntmps6
  go_wp2_with (first
    | (go_at_call 22; refine (C1.out _ ((Below.refl _ _).alloc (Nat.le_refl _) _)).mono ?_; rintro e w1 ⟨rfl, hb⟩; have k0 := box1' hb; have HB := Lib.hid (below_box hb); clear hb)
    | (go_at_call 23; refine (C2.out _ HB.out).mono ?_; rintro e w2 ⟨rfl, hb2⟩))
  all_goals (go_ret; exact ⟨ret_bool (by simp), HB.out.trans (hb2.mono HB.out.size)⟩)
end Go.Proofs.Ytjnndbllaplkcaa
