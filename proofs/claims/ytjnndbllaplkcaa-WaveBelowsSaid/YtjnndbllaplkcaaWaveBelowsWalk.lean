/-
  Contracts of wave.Below and of the reference's WaveBelow, and the walk of the law WaveBelows. Conditions: the arguments can be read as data.
-/
import Derived.Test.YtjnndbllaplkcaaWaveRange
namespace Go.Proofs.Ytjnndbllaplkcaa
open Go Go.RowKit Go.Dam
set_option linter.unusedVariables false
/-- What Below answers. -/
def WBelowR (rs : List (Int × List Nat)) (x cc : Int) (n p q : Nat) (r : Int) : Prop := (cc ≠ 0 ∧ r = 0) ∨ (cc = 0 ∧ r = (((sW rs n p q).countP (fun z => decide (z < x)) : Nat) : Int))
theorem WBelowR.ex (rs : List (Int × List Nat)) (x cc : Int) (n p q : Nat) : ∃ r, WBelowR rs x cc n p q r := by
  by_cases h : cc = 0
  · exact ⟨_, .inr ⟨h, rfl⟩⟩
  · exact ⟨_, .inl ⟨h, rfl⟩⟩
set_option maxRecDepth 100000 in
set_option maxHeartbeats 1000000 in
theorem waveBelowP (v : Value) (rs : List (Int × List Nat)) (a b x cc r : Int) (n p q : Nat) (w : World) (B : Nat) (hB : B ≤ w.heap.size) (h : IsWave w B v rs) (ha : I64 a) (hb : I64 b) (hx : I64 x) (hR : RangeR rs a b cc n p q) (hr : WBelowR rs x cc n p q r) :
    Calls Try.prog 18 #[v, .int .i64 a, .int .i64 b, .int .i64 x] w fun e w' => e = .returned (.tuple #[.int .i64 r, .int .i64 cc]) ∧ Below w.heap.size w w' := by
  have HF := Lib.hid fun W (hW : Below w.heap.size w W) => waveFault_any v rs a b cc W B (Nat.le_trans hB hW.size) (h.below (hW.mono hB)) ha hb hR.fault
  have HBl := Lib.hid fun n a b hmw hln hab hbn W (hW : Below w.heap.size w W) => waveBelow_any v rs n a b x W B (Nat.le_trans hB hW.size) (h.below (hW.mono hB)) hmw hln hab hbn hx
  obtain ⟨s, rfl, h⟩ := h
  obtain ⟨A, c, vs, rfl, hc, hm, hn, _, _⟩ := h
  have HA := Lib.hid ((Below.refl w.heap.size w).alloc (Nat.le_refl _) (.cells #[.slice A rs.length c] 25))
  unfold I64 at ha hb hx
  rcases hR with ⟨_, h0⟩ | ⟨hmw, rfl, hln, rfl, rfl, hpq, hqn⟩
  · rcases hr with ⟨_, rfl⟩ | ⟨h1, _⟩
    · have hd : (cc != 0) = true := by simpa using h0
      clear HBl h0
      go_enter Try.func18, Try.ntmps18
      go_wp2_with (go_at_call 47; refine (HF.out _ HA.out).mono ?_; rintro e w1 ⟨rfl, hb⟩)
      go_ret2
      exact ⟨rfl, below_box hb⟩
    · exact absurd h1 h0
  · rcases hr with ⟨h1, _⟩ | ⟨_, rfl⟩
    · exact absurd rfl h1
    · have HC := Lib.hid (HBl.out n p q hmw hln hpq hqn)
      generalize (sW rs n p q).countP (fun z => decide (z < x)) = K at *
      clear HBl hmw hln
      go_enter Try.func18, Try.ntmps18
      go_wp2_with (first
        | (go_at_call 47; refine (HF.out _ HA.out).mono ?_; rintro e w1 ⟨rfl, hb⟩; have k0 := box1' hb; have HB1 := Lib.hid (below_box hb); clear hb)
        | (go_at_call 48; refine (HC.out _ HB1.out).mono ?_; rintro e w2 ⟨rfl, hb2⟩))
      go_ret2
      exact ⟨rfl, HB1.out.trans (hb2.mono HB1.out.size)⟩
set_option maxRecDepth 100000 in
set_option maxHeartbeats 1000000 in
theorem refWaveBelowP (v : Value) (rs : List (Int × List Nat)) (a b x cc r : Int) (n p q : Nat) (w : World) (B : Nat) (hB : B ≤ w.heap.size) (h : IsWave w B v rs) (ha : I64 a) (hb : I64 b) (hx : I64 x) (hR : RangeR rs a b cc n p q) (hr : WBelowR rs x cc n p q r) :
    Calls Try.prog 19 #[v, .int .i64 a, .int .i64 b, .int .i64 x] w fun e w' => e = .returned (.tuple #[.int .i64 r, .int .i64 cc]) ∧ Below w.heap.size w w' := by
  obtain ⟨l, hl⟩ : ∃ l : List Int, l = if cc = 0 then sW rs n p q else [] := ⟨_, rfl⟩
  have HS := Lib.hid fun W (hW : Below w.heap.size w W) => waveSorted_any v rs a b l cc W B (Nat.le_trans hB hW.size) (h.below (hW.mono hB)) ha hb (by rw [hl]; exact hR.sorted)
  have hrl : r = ((l.countP (fun z => decide (z < x)) : Nat) : Int) := by
    rcases hr with ⟨h0, rfl⟩ | ⟨rfl, rfl⟩
    · rw [hl, if_neg h0]; rfl
    · rw [hl, if_pos rfl]
  have hsorted : l.Pairwise (· ≤ ·) := by
    rw [hl]; split
    · exact sW_sorted _ _ _ _
    · exact List.Pairwise.nil
  have HAh := Lib.hid (sorted_ahead l hsorted x)
  have hK : l.countP (fun z => decide (z < x)) ≤ l.length := List.countP_le_length
  have hll : l.length ≤ 140737488351232 := by
    rw [hl]; split
    · rename_i hcc
      rcases hR with ⟨_, h0⟩ | ⟨hmw, _, hln, _, _, hpq, hqn⟩
      · exact absurd hcc h0
      · rw [sW_length rs hpq hqn]
        obtain ⟨n', hn', hn300, _⟩ := mayWave_len hmw
        omega
    · simp
  obtain ⟨s, rfl, h⟩ := h
  obtain ⟨A, c, vs, rfl, hc, hm, hn, _, _⟩ := h
  have HA := Lib.hid ((Below.refl w.heap.size w).alloc (Nat.le_refl _) (.cells #[.slice A rs.length c] 25))
  unfold I64 at ha hb hx
  subst hrl
  generalize l.countP (fun z => decide (z < x)) = K at *
  clear hR hr hl hsorted
  go_enter Try.func19, Try.ntmps19
  go_wp2_with (go_at_call 49; refine (HS.out _ HA.out).mono ?_; rintro e w1 ⟨u, rfl, hu, hb⟩; obtain ⟨Au, cu, rfl, _, _, _, hru, _⟩ := hu; have HRu := Lib.hid hru; have HB1 := Lib.hid (below_box hb); clear hb hru)
  go_loop [12] (fun kv => ∃ k : Nat, k ≤ K ∧ kv = .int .i64 k) (fun kv => l.length - (intOf kv).toNat)
  case atStart => exact ⟨0, by omega, rfl⟩
  case round =>
    obtain ⟨k, hk, rfl⟩ := hrel
    by_cases hkl : k < l.length
    · obtain ⟨bu, offu, rfl, _, hcell⟩ := ints_cells HRu.out (by omega)
      have kc := hcell k hkl
      have hah := HAh.out k hkl
      clear hcell
      generalize l.getD k 0 = y at *
      by_cases hy : y < x
      · have hkK := hah.1 hy
        clear hah
        go_wp2_with fail
        go_round
        case rel => exact ⟨k + 1, by omega, by go_num⟩
        case measure => simp [intOf]; omega
      · obtain rfl : k = K := by
          have : ¬ k < K := fun h => hy (hah.2 h)
          omega
        have hyd : decide (y < x) = false := decide_eq_false hy
        clear hah
        go_wp2_with fail
        go_ret2
        exact ⟨rfl, HB1.out⟩
    · obtain rfl : k = K := by omega
      have hkd : ¬ (k : Int) < (l.length : Int) := by omega
      go_wp2_with fail
      go_ret2
      exact ⟨rfl, HB1.out⟩
theorem waveBelows_walk (v u1 u2 u3 : Value) (w : World) (h : ∃ rs, IsWave w w.heap.size v rs) (h1 : ∃ x : Int, u1 = .int .i64 x ∧ I64 x) (h2 : ∃ x : Int, u2 = .int .i64 x ∧ I64 x) (h3 : ∃ x : Int, u3 = .int .i64 x ∧ I64 x) :
    Calls Try.prog 4 #[v, u1, u2, u3] w fun e w' => e = .returned (.bool true) ∧ Below w.heap.size w w' := by
  obtain ⟨rs, h⟩ := h
  obtain ⟨a, rfl, ha⟩ := h1
  obtain ⟨b, rfl, hb⟩ := h2
  obtain ⟨x, rfl, hx⟩ := h3
  obtain ⟨cc, n, p, q, hR⟩ := RangeR.ex rs a b
  obtain ⟨r, hr⟩ := WBelowR.ex rs x cc n p q
  have C1 := Lib.hid fun W (hW : Below w.heap.size w W) => waveBelowP v rs a b x cc r n p q W _ hW.size (h.below hW) ha hb hx hR hr
  have C2 := Lib.hid fun W (hW : Below w.heap.size w W) => refWaveBelowP v rs a b x cc r n p q W _ hW.size (h.below hW) ha hb hx hR hr
  obtain ⟨s, rfl, h⟩ := h
  obtain ⟨A, c, vs, rfl, hc, hm, hn, _, _⟩ := h
  unfold I64 at ha hb hx
  clear hR hr
  go_enter Try.func4, Try.ntmps4
  go_wp2_with (first
    | (go_at_call 18; refine (C1.out _ ((Below.refl _ _).alloc (Nat.le_refl _) _)).mono ?_; rintro e w1 ⟨rfl, hb⟩; have k0 := box1' hb; have HB := Lib.hid (below_box hb); clear hb)
    | (go_at_call 19; refine (C2.out _ HB.out).mono ?_; rintro e w2 ⟨rfl, hb2⟩))
  all_goals (go_ret; exact ⟨ret_bool (by simp), HB.out.trans (hb2.mono HB.out.size)⟩)
end Go.Proofs.Ytjnndbllaplkcaa
