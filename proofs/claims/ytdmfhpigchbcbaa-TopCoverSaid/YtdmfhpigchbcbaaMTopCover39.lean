/-
  Texts of one claim behind each other. Conditions: none of its own.
-/
import Derived.Test.YtdmfhpigchbcbaaMTopCover35
import Derived.Test.YtdmfhpigchbcbaaMTopCover38
import Derived.Test.YtdmfhpigchbcbaaMTopCover03
import Derived.Test.YtdmfhpigchbcbaaMTopCover00
import Derived.Test.YtdmfhpigchbcbaaMTopCover22
/-
  A range of a wave: its fault, or where it lies. Conditions: none.
-/
namespace Go.Proofs.Ytdmfhpigchbcbaa
open Go Go.RowKit Go.Dam
set_option linter.unusedVariables false
/-- A range's fault, or where it lies. -/
def RangeR (rs : List (Int × List Nat)) (a b cc : Int) (n p q : Nat) : Prop := (FaultR rs a b cc ∧ cc ≠ 0) ∨ (MayWave rs ∧ cc = 0 ∧ lenW rs = n ∧ a = p ∧ b = q ∧ p ≤ q ∧ q ≤ n)
theorem RangeR.ex (rs : List (Int × List Nat)) (a b : Int) : ∃ cc n p q, RangeR rs a b cc n p q := by
  obtain ⟨cc, h⟩ := FaultR.ex rs a b
  by_cases h0 : cc = 0
  · rcases h with ⟨_, rfl⟩ | ⟨_, _, rfl⟩ | ⟨hm, ⟨p, q, rfl, rfl, hpq, hq⟩, _⟩
    · exact absurd h0 (by decide)
    · exact absurd h0 (by decide)
    · obtain ⟨n, hn, _⟩ := mayWave_len hm
      exact ⟨cc, n, p, q, .inr ⟨hm, h0, hn, rfl, rfl, hpq, by omega⟩⟩
  · exact ⟨cc, 0, 0, 0, .inl ⟨h, h0⟩⟩
theorem RangeR.fault {rs : List (Int × List Nat)} {a b cc : Int} {n p q : Nat} (h : RangeR rs a b cc n p q) : FaultR rs a b cc := by
  rcases h with ⟨h, _⟩ | ⟨hm, rfl, hn, rfl, rfl, hpq, hq⟩
  · exact h
  · exact .inr (.inr ⟨hm, ⟨p, q, rfl, rfl, hpq, by omega⟩, rfl⟩)
theorem RangeR.sorted {rs : List (Int × List Nat)} {a b cc : Int} {n p q : Nat} (h : RangeR rs a b cc n p q) : SortedR rs a b (if cc = 0 then sW rs n p q else []) cc := by
  rcases h with ⟨h, h0⟩ | ⟨hm, rfl, hn, rfl, rfl, hpq, hq⟩
  · exact .inl ⟨h, h0, if_neg h0⟩
  · exact .inr ⟨hm, rfl, n, p, q, hn, rfl, rfl, hpq, hq, if_pos rfl⟩
theorem i64_of {b q n : Nat} (h : q ≤ n) (hn : n ≤ 300) : I64 (q : Int) := by unfold I64; omega
end Go.Proofs.Ytdmfhpigchbcbaa

/-
  Contracts of wave.Below and of the reference's WaveBelow, and the walk of the law WaveBelows. Conditions: the arguments can be read as data.
-/
namespace Go.Proofs.Ytdmfhpigchbcbaa
open Go Go.RowKit Go.Dam
set_option linter.unusedVariables false
/-- What Below answers. -/
def WBelowR (rs : List (Int × List Nat)) (x cc : Int) (n p q : Nat) (r : Int) : Prop := (cc ≠ 0 ∧ r = 0) ∨ (cc = 0 ∧ r = (((sW rs n p q).countP (fun z => decide (z < x)) : Nat) : Int))
theorem WBelowR.ex (rs : List (Int × List Nat)) (x cc : Int) (n p q : Nat) : ∃ r, WBelowR rs x cc n p q r := by
  by_cases h : cc = 0
  · exact ⟨_, .inr ⟨h, rfl⟩⟩
  · exact ⟨_, .inl ⟨h, rfl⟩⟩
set_option maxRecDepth 100000 in
set_option maxHeartbeats 1000000 in
theorem waveBelowP (v : Value) (rs : List (Int × List Nat)) (a b x cc r : Int) (n p q : Nat) (w : World) (B : Nat) (hB : B ≤ w.heap.size) (h : IsWave w B v rs) (ha : I64 a) (hb : I64 b) (hx : I64 x) (hR : RangeR rs a b cc n p q) (hr : WBelowR rs x cc n p q r) :
    Calls Try.prog 61 #[v, .int .i64 a, .int .i64 b, .int .i64 x] w fun e w' => e = .returned (.tuple #[.int .i64 r, .int .i64 cc]) ∧ Below w.heap.size w w' := by
  have HF := Lib.hid fun W (hW : Below w.heap.size w W) => waveFault_any v rs a b cc W B (Nat.le_trans hB hW.size) (h.below (hW.mono hB)) ha hb hR.fault
  have HBl := Lib.hid fun n a b hmw hln hab hbn W (hW : Below w.heap.size w W) => waveBelow_any v rs n a b x W B (Nat.le_trans hB hW.size) (h.below (hW.mono hB)) hmw hln hab hbn hx
  obtain ⟨s, rfl, h⟩ := h
  obtain ⟨A, c, vs, rfl, hc, hm, hn, _, _⟩ := h
  have HA := Lib.hid ((Below.refl w.heap.size w).alloc (Nat.le_refl _) (.cells #[.slice A rs.length c] 34))
  unfold I64 at ha hb hx
  rcases hR with ⟨_, h0⟩ | ⟨hmw, rfl, hln, rfl, rfl, hpq, hqn⟩
  · rcases hr with ⟨_, rfl⟩ | ⟨h1, _⟩
    · have hd : (cc != 0) = true := by simpa using h0
      clear HBl h0
      go_enter Try.func61, Try.ntmps61
      go_wp2_with (go_at_call 25; refine (HF.out _ HA.out).mono ?_; rintro e w1 ⟨rfl, hb⟩)
      go_ret2
      exact ⟨rfl, below_box hb⟩
    · exact absurd h1 h0
  · rcases hr with ⟨h1, _⟩ | ⟨_, rfl⟩
    · exact absurd rfl h1
    · have HC := Lib.hid (HBl.out n p q hmw hln hpq hqn)
      generalize (sW rs n p q).countP (fun z => decide (z < x)) = K at *
      clear HBl hmw hln
      go_enter Try.func61, Try.ntmps61
      go_wp2_with (first
        | (go_at_call 25; refine (HF.out _ HA.out).mono ?_; rintro e w1 ⟨rfl, hb⟩; have k0 := box1' hb; have HB1 := Lib.hid (below_box hb); clear hb)
        | (go_at_call 72; refine (HC.out _ HB1.out).mono ?_; rintro e w2 ⟨rfl, hb2⟩))
      go_ret2
      exact ⟨rfl, HB1.out.trans (hb2.mono HB1.out.size)⟩
end Go.Proofs.Ytdmfhpigchbcbaa

/-
  Contract of the index's below: how many of a range of its order have an Y below one (or at it). Conditions: the index lies in memory.
-/
namespace Go.Proofs.Ytdmfhpigchbcbaa
open Go Go.RowKit Go.Dam
set_option linter.unusedVariables false
set_option maxRecDepth 100000 in
set_option maxHeartbeats 2000000 in
theorem gridBelow_any (y : Int) (at_ : Bool) (a b B g n : Nat) (l : List Int) (r : List Nat) (vals rs : List Int) (wss : List (List Nat)) (cc : Int) (w : World) (hB : B ≤ w.heap.size) (hI : IsIdx w B g n l r vals (wss.map fun ws => ((n : Int), ws))) (hR : IdxR l n r vals rs wss cc) (hn0 : 0 < n) (hn : n ≤ 150) (hab : a ≤ b) (hb : b ≤ n) :
    Calls Try.prog 37 #[.pointer (some ⟨g, 0, none⟩), .int .i64 a, .int .i64 b, .int .i64 y, .bool at_] w fun e w' => e = .returned (.int .i64 (belowN l r n a b y at_ : Nat)) ∧ Below w.heap.size w w' := by
  have hvl := idx_vals hR
  have HMk := Lib.hid (idx_made hR hn)
  have HRs := Lib.hid (idx_rs hR)
  have HE := Lib.hid fun K (hK : BoundOf (fun i => isAb (vals.getD i 0) y at_) vals.length K) => idx_below hR hn hab hb hK
  have hV := hR.2.1.1
  have hb3 : Below w.heap.size w (((w.alloc (.cells #[.pointer (some ⟨g, 0, none⟩)] 88)).alloc (.cells #[.int .i64 y] 3)).alloc (.cells #[.bool at_] 4)) := (((Below.refl _ _).alloc (Nat.le_refl _) _).alloc (by simp) _).alloc (by simp; omega) _
  have HB3 := Lib.hid hb3
  have b0 := (((Blk.new w 88 #[.pointer (some ⟨g, 0, none⟩)]).alloc (.cells #[.int .i64 y] 3)).alloc (.cells #[.bool at_] 4)).cell 0
  have b1 := ((Blk.new_at (w.alloc (.cells #[.pointer (some ⟨g, 0, none⟩)] 88)) 3 #[.int .i64 y] (w.heap.size + 1) (by simp)).alloc (.cells #[.bool at_] 4)).cell 0
  have b2 := (Blk.new_at ((w.alloc (.cells #[.pointer (some ⟨g, 0, none⟩)] 88)).alloc (.cells #[.int .i64 y] 3)) 4 #[.bool at_] (w.heap.size + 2) (by simp)).cell 0
  have hI3 := hI.below (hb3.mono hB)
  have HS : Hid (Calls Try.prog 58 #[.int .i64 vals.length, .func (.func 60) #[] #[.pointer (some ⟨w.heap.size, 0, none⟩), .pointer (some ⟨w.heap.size + 1, 0, none⟩), .pointer (some ⟨w.heap.size + 2, 0, none⟩)]] (((w.alloc (.cells #[.pointer (some ⟨g, 0, none⟩)] 88)).alloc (.cells #[.int .i64 y] 3)).alloc (.cells #[.bool at_] 4)) fun e w' => ∃ k : Nat, e = .returned (.int .i64 k) ∧ BoundOf (fun i => isAb (vals.getD i 0) y at_) vals.length k ∧ Drawn (((w.alloc (.cells #[.pointer (some ⟨g, 0, none⟩)] 88)).alloc (.cells #[.int .i64 y] 3)).alloc (.cells #[.bool at_] 4)) w') := Lib.hid (by
    refine belowSearch_any vals.length w.heap.size (w.heap.size + 1) (w.heap.size + 2) (fun i => isAb (vals.getD i 0) y at_) _ (by omega) (fun i j hij hj hi => vals_mono hV hij hj hi) ?_
    rintro h b hh rfl W ⟨q, rfl⟩
    obtain ⟨h0, pv, ov, vv, wv, c0, c1, c2, c3, h1, h2, h3, h4⟩ := hI3
    obtain ⟨A2, co, rfl, _, _, _, hr2, _⟩ := h3
    obtain ⟨vb, vo, rfl, _, hc2⟩ := ints_cells hr2 (by omega)
    exact belowPred_any h vals.length co g vb vo w.heap.size (w.heap.size + 1) (w.heap.size + 2) (vals.getD h 0) y at_ _ (by omega) hh (b0.trans rfl) (b1.trans rfl) (b2.trans rfl) c2 (hc2 h hh))
  have HWv := Lib.hid fun (K : Nat) (hK : K ≤ n) (W : World) (hW : Below w.heap.size w W) (v : Value) (hv : IsWave w B v (wss.map fun ws => ((n : Int), ws))) => waveBelowP v (wss.map fun ws => ((n : Int), ws)) a b K 0 (((sW (wss.map fun ws => ((n : Int), ws)) n a b).countP (fun z => decide (z < (K : Int))) : Nat) : Int) n a b W B (Nat.le_trans hB hW.size) (hv.below (hW.mono hB)) (by unfold I64; omega) (by unfold I64; omega) (by unfold I64; omega)
    (.inr ⟨by rw [HMk.out]; exact madeRows_may (by omega) (by omega) (by rw [HRs.out]; omega), rfl, by rw [HMk.out, madeRows_lenW _ (by omega), HRs.out], rfl, rfl, hab, hb⟩) (.inr ⟨rfl, rfl⟩)
  obtain ⟨h0, pv, ov, vv, wv, c0, c1, c2, c3, h1, h2, h3, h4⟩ := hI
  have HI4' := h4
  obtain ⟨A2, co, rfl, _, _, _, hr2, _⟩ := h3
  obtain ⟨A4, c4, vs4, rfl, hc4, _⟩ := h4
  rw [List.length_map] at HI4' c3
  have HI4 := Lib.hid HI4'
  clear HI4'
  have HC2 := Lib.hid c2
  have HC3 := Lib.hid c3
  have k2 := (hb3.cell (p := ⟨g, 2, none⟩) (by show g < w.heap.size; omega)).trans c2
  have k0 := b0.trans rfl
  clear hI3 c0 c1 c2 c3 h1 h2 hr2 hc4 b0 b1 b2 hb3 hV
  go_enter Try.func37, Try.ntmps37
  go_upto_region 1 with fail
  have hz3 : (((w.alloc (.cells #[.pointer (some ⟨g, 0, none⟩)] 88)).alloc (.cells #[.int .i64 y] 3)).alloc (.cells #[.bool at_] 4)).heap.size = w.heap.size + 3 := by simp
  generalize (((w.alloc (.cells #[.pointer (some ⟨g, 0, none⟩)] 88)).alloc (.cells #[.int .i64 y] 3)).alloc (.cells #[.bool at_] 4)) = W3 at *
  go_upto_region 2 with (go_at_call 58; refine (HS.out).mono ?_; rintro e w1 ⟨K, rfl, hK, hd1⟩)
  have hKn : K ≤ n := by have := hK.1; omega
  have HB4 := Lib.hid (HB3.out.trans (hd1.below w.heap.size))
  have HEK := Lib.hid (HE.out K hK)
  have q3 := (HB4.out.cell (p := ⟨g, 3, none⟩) (by show g < w.heap.size; omega)).trans HC3.out
  have q0 : w1.cell? ⟨w.heap.size, 0, none⟩ = some (.pointer (some ⟨g, 0, none⟩)) := ((hd1.below W3.heap.size).cell (p := ⟨w.heap.size, 0, none⟩) (by show w.heap.size < _; omega)).trans k0
  clear hK hd1 k0 k2
  have HW1 := Lib.hid (HWv.out K hKn w1 HB4.out _ ⟨_, rfl, HI4.out⟩)
  clear HWv HS HE HI4
  go_wp2_with (go_at_call 61; refine (HW1.out).mono ?_; rintro e w2 ⟨rfl, hb2⟩)
  go_ret
  exact ⟨ret_int (by rw [HEK.out]), HB4.out.trans (hb2.mono HB4.out.size)⟩
end Go.Proofs.Ytdmfhpigchbcbaa

/-
  Contract of the reference's coordMay: is a coordinate not too great? Conditions: the argument is an int.
-/
namespace Go.Proofs.Ytdmfhpigchbcbaa
open Go Go.RowKit Go.Dam
set_option linter.unusedVariables false
end Go.Proofs.Ytdmfhpigchbcbaa

/-
  Contract of the reference's PointsFault: what is refused of points. Conditions: the points can be read as data.
-/
namespace Go.Proofs.Ytdmfhpigchbcbaa
open Go Go.RowKit Go.Dam
set_option linter.unusedVariables false
end Go.Proofs.Ytdmfhpigchbcbaa
