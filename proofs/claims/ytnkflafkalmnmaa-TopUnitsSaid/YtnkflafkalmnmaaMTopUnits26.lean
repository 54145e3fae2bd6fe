/-
  Contracts of package seg: a tree is grown; what is wrong with an operation. Conditions: the numbers are bounded.
-/
import Derived.Test.YtnkflafkalmnmaaMTopUnits23
import Derived.Test.YtnkflafkalmnmaaMTopUnits25
import Derived.Test.YtnkflafkalmnmaaMTopUnits00
namespace Go.Proofs.Ytnkflafkalmnmaa
open Go Go.RowKit Go.Dam
set_option linter.unusedVariables false
set_option maxHeartbeats 1000000 in
theorem playBad_any (x : Int) (W : World) (hx : I64 x) : Calls Try.prog 43 #[.int .i64 x] W fun e w' => e = .returned (.bool (!coordOk x)) ∧ W = w' := by
  cases h : coordOk x with
  | true =>
    have HC := Lib.hid (segNear_any x true W h)
    clear h
    go_enter Try.func43, Try.ntmps43
    go_wp2_with (go_at_call 44; refine (HC.out).mono ?_; rintro e w1 ⟨rfl, rfl⟩)
    go_ret
    exact ⟨rfl, rfl⟩
  | false =>
    have HC := Lib.hid (segNear_any x false W h)
    clear h
    go_enter Try.func43, Try.ntmps43
    go_wp2_with (go_at_call 44; refine (HC.out).mono ?_; rintro e w1 ⟨rfl, rfl⟩)
    go_ret
    exact ⟨rfl, rfl⟩
set_option maxRecDepth 100000 in
set_option maxHeartbeats 4000000 in
theorem segFault_any (n kind lo hi c : Int) (w : World) (hn : 0 ≤ n ∧ n ≤ 300) : Calls Try.prog 46 #[.agg #[.int .i64 kind, .int .i64 lo, .int .i64 hi, .int .i64 c], .int .i64 n] w fun e w' => e = .returned (.int .i64 (opBad n kind lo hi c)) ∧ Below w.heap.size w w' := by
  have HB := Lib.hid ((Below.refl w.heap.size w).alloc (Nat.le_refl _) (.cells #[.int .i64 kind, .int .i64 lo, .int .i64 hi, .int .i64 c] 67))
  obtain ⟨q, hq⟩ : ∃ q, opBad n kind lo hi c = q := ⟨_, rfl⟩
  rw [hq]
  by_cases h1 : kind < 1
  · obtain rfl : q = 3 := by rw [← hq]; exact opBad_kind (.inl h1)
    have t1 : (kind == 1) = false := beq_eq_false_iff_ne.2 (by omega)
    have t2 : (kind == 2) = false := beq_eq_false_iff_ne.2 (by omega)
    have t3 : decide (kind < 1) = true := decide_eq_true h1
    clear hq
    go_enter Try.func46, Try.ntmps46
    go_wp2_with fail
    go_ret
    exact ⟨rfl, HB.out⟩
  have t3 : decide (kind < 1) = false := decide_eq_false h1
  by_cases h2 : 4 < kind
  · obtain rfl : q = 3 := by rw [← hq]; exact opBad_kind (.inr h2)
    have t1 : (kind == 1) = false := beq_eq_false_iff_ne.2 (by omega)
    have t2 : (kind == 2) = false := beq_eq_false_iff_ne.2 (by omega)
    have t4 : decide (4 < kind) = true := decide_eq_true h2
    clear hq
    go_enter Try.func46, Try.ntmps46
    go_wp2_with fail
    go_ret
    exact ⟨rfl, HB.out⟩
  have t4 : decide (4 < kind) = false := decide_eq_false h2
  have hk12 : ¬ (kind < 1 ∨ 4 < kind) := by omega
  obtain ⟨ch, hch⟩ : ∃ ch, decide (kind ≤ 2) = ch := ⟨_, rfl⟩
  have t12 : (kind == 1) = true ∨ ((kind == 1) = false ∧ (kind == 2) = ch) := by
    by_cases e1 : kind = 1
    · exact .inl (beq_iff_eq.2 e1)
    · refine .inr ⟨beq_eq_false_iff_ne.2 e1, ?_⟩
      rw [← hch]
      by_cases e2 : kind = 2
      · rw [beq_iff_eq.2 e2, decide_eq_true (by omega)]
      · rw [beq_eq_false_iff_ne.2 e2, decide_eq_false (by omega)]
  have hch1 : kind = 1 → ch = true := fun e => by rw [← hch]; exact decide_eq_true (by omega)
  by_cases h5 : lo < 0
  · obtain rfl : q = 2 := by rw [← hq]; exact opBad_range hk12 (.inl h5)
    have t5 : decide (lo < 0) = true := decide_eq_true h5
    clear hq hch1 hch
    rcases t12 with t1 | ⟨t1, t2⟩
    all_goals cases ch
    all_goals go_enter Try.func46, Try.ntmps46
    all_goals go_wp2_with fail
    all_goals go_ret
    all_goals exact ⟨rfl, HB.out⟩
  have t5 : decide (lo < 0) = false := decide_eq_false h5
  by_cases h6 : hi < lo
  · obtain rfl : q = 2 := by rw [← hq]; exact opBad_range hk12 (.inr (.inl h6))
    have t6 : decide (hi < lo) = true := decide_eq_true h6
    clear hq hch1 hch
    rcases t12 with t1 | ⟨t1, t2⟩
    all_goals cases ch
    all_goals go_enter Try.func46, Try.ntmps46
    all_goals go_wp2_with fail
    all_goals go_ret
    all_goals exact ⟨rfl, HB.out⟩
  have t6 : decide (hi < lo) = false := decide_eq_false h6
  by_cases h7 : n ≤ hi
  · obtain rfl : q = 2 := by rw [← hq]; exact opBad_range hk12 (.inr (.inr (.inl h7)))
    have t7 : decide (n ≤ hi) = true := decide_eq_true h7
    clear hq hch1 hch
    rcases t12 with t1 | ⟨t1, t2⟩
    all_goals cases ch
    all_goals go_enter Try.func46, Try.ntmps46
    all_goals go_wp2_with fail
    all_goals go_ret
    all_goals exact ⟨rfl, HB.out⟩
  have t7 : decide (n ≤ hi) = false := decide_eq_false h7
  cases ch with
  | false =>
    have hk2 : ¬ kind ≤ 2 := of_decide_eq_false hch
    obtain rfl : q = 0 := by rw [← hq]; exact opBad_ok hk12 (by omega)
    have t1 : (kind == 1) = false := beq_eq_false_iff_ne.2 (by omega)
    have t2 : (kind == 2) = false := beq_eq_false_iff_ne.2 (by omega)
    clear hq hch1 hch t12
    go_enter Try.func46, Try.ntmps46
    go_wp2_with fail
    go_ret
    exact ⟨rfl, HB.out⟩
  | true =>
    have hk2 : kind ≤ 2 := of_decide_eq_true hch
    cases hc : coordOk c with
    | true =>
      have HN := Lib.hid fun W => segNear_any c true W hc
      obtain rfl : q = 0 := by rw [← hq]; exact opBad_ok hk12 (by rw [hc]; simp; omega)
      clear hq hch1 hch hc
      rcases t12 with t1 | ⟨t1, t2⟩
      all_goals go_enter Try.func46, Try.ntmps46
      all_goals go_wp2_with (go_at_call 44; refine (HN.out _).mono ?_; rintro e w1 ⟨rfl, rfl⟩)
      all_goals go_ret
      all_goals exact ⟨rfl, HB.out⟩
    | false =>
      have HN := Lib.hid fun W => segNear_any c false W hc
      obtain rfl : q = 2 := by rw [← hq]; exact opBad_range hk12 (.inr (.inr (.inr ⟨hk2, hc⟩)))
      clear hq hch1 hch hc
      rcases t12 with t1 | ⟨t1, t2⟩
      all_goals go_enter Try.func46, Try.ntmps46
      all_goals go_wp2_with (go_at_call 44; refine (HN.out _).mono ?_; rintro e w1 ⟨rfl, rfl⟩)
      all_goals go_ret
      all_goals exact ⟨rfl, HB.out⟩
set_option maxRecDepth 100000 in
set_option maxHeartbeats 4000000 in
theorem segGrow_any {M : Int} (hM0 : 0 ≤ M) (hM : M ≤ 1073741824) (l : List Int) (n c bk off : Nat) (hn : n ≤ 300) (hl : ∀ i, i < n → -M ≤ l.getD i 0 ∧ l.getD i 0 ≤ M) : ∀ (k lo : Nat) (w : World), lo + k < n → bk < w.heap.size → (∀ j, j < n → w.cell? ⟨bk, off + j, none⟩ = some (.int .i64 (l.getD j 0))) →
    Calls Try.prog 45 #[.slice (some ⟨bk, off, none⟩) n c, .int .i64 lo, .int .i64 (lo + k : Nat)] w fun e w' => ∃ b, e = .returned (.pointer (some ⟨b, 0, none⟩)) ∧ w.heap.size ≤ b ∧ SegT 103 w' M k b w'.heap.size lo (fun i => l.getD i 0) ∧ Below w.heap.size w w' := by
  intro k
  induction k using Nat.strongRecOn with
  | _ k ih =>
  intro lo w hk hbk hc
  have HB : Hid (Blk (w.alloc (.cells #[.int .i64 0, .int .i64 0, .bool false, .int .i64 0, .int .i64 0, .pointer none, .pointer none] 103)) w.heap.size 103 (nodeC 0 0 false 0 0 none none)) := Lib.hid (Blk.new w 103 (nodeC 0 0 false 0 0 none none))
  have HBw : Hid (Below w.heap.size w (w.alloc (.cells #[.int .i64 0, .int .i64 0, .bool false, .int .i64 0, .int .i64 0, .pointer none, .pointer none] 103))) := Lib.hid ((Below.refl w.heap.size w).alloc (Nat.le_refl _) _)
  have hz : (w.alloc (.cells #[.int .i64 0, .int .i64 0, .bool false, .int .i64 0, .int .i64 0, .pointer none, .pointer none] 103)).heap.size = w.heap.size + 1 := by simp
  have HCs : Hid (∀ W, Below w.heap.size w W → ∀ j, j < n → W.cell? ⟨bk, off + j, none⟩ = some (.int .i64 (l.getD j 0))) := Lib.hid fun W hW j hj => (hW.cell (p := ⟨bk, off + j, none⟩) hbk).trans (hc j hj)
  by_cases hk0 : k = 0
  · subst hk0
    have c0 := HCs.out _ HBw.out lo (by omega)
    have i1 : (lo : Int) < (n : Int) := by omega
    have f0 := HB.out.frozen 0
    have f1 := HB.out.frozen 1
    have a0 := node_0 HB.out
    have a1 := node_1 HB.out
    have hb0 := hl lo (by omega)
    rw [Nat.add_zero]
    have HE : Hid (∀ x : Int, l.getD lo 0 = x → ∀ W b e, Blk W b 103 (nodeC x x false 0 0 none none) → b < e → e ≤ W.heap.size → SegT 103 W M 0 b e lo (fun i => l.getD i 0)) := Lib.hid fun x hx W b e h1 h2 h3 => .leaf (f := fun i => l.getD i 0) (by subst hx; exact h1) h2 h3 hb0
    obtain ⟨x, hx⟩ : ∃ x, l.getD lo 0 = x := ⟨_, rfl⟩
    rw [hx] at c0
    have HX := Lib.hid hx
    clear hx hb0 hc ih
    go_enter Try.func45, Try.ntmps45
    go_upto_region 3 with fail
    generalize (w.alloc (.cells #[.int .i64 0, .int .i64 0, .bool false, .int .i64 0, .int .i64 0, .pointer none, .pointer none] 103)) = W at *
    go_region
    go_wp2_with fail
    go_ret
    have hB2 : Blk (((W.setCell ⟨w.heap.size, 0, none⟩ (.int .i64 x)).setCell ⟨w.heap.size, 1, none⟩ (.int .i64 x)).drew) w.heap.size 103 (nodeC x x false 0 0 none none) := (HB.out.set_ 0 _).set_ 1 _
    exact ⟨w.heap.size, rfl, Nat.le_refl _, HE.out x HX.out _ _ _ hB2 hB2.lt (Nat.le_refl _), ((HBw.out.setCell (p := ⟨w.heap.size, 0, none⟩) (Nat.le_refl _) _).setCell (p := ⟨w.heap.size, 1, none⟩) (Nat.le_refl _) _).drew⟩
  · obtain ⟨hi, hhi⟩ : ∃ m : Nat, lo + k = m := ⟨_, rfl⟩
    obtain ⟨mid, hmid⟩ : ∃ m : Nat, lo + k / 2 = m := ⟨_, rfl⟩
    have t1 : ((lo : Int) == (hi : Int)) = false := beq_eq_false_iff_ne.2 (by omega)
    have t2 : (lo == hi) = false := beq_eq_false_iff_ne.2 (by omega)
    have t3 : decide (lo = hi) = false := decide_eq_false (by omega)
    have hm1 : ((lo : Int) + (hi : Int)) / 2 = (mid : Int) := by omega
    have HL : Hid (∀ W, Below w.heap.size w W → Calls Try.prog 45 #[.slice (some ⟨bk, off, none⟩) n c, .int .i64 lo, .int .i64 mid] W fun e w' => ∃ b, e = .returned (.pointer (some ⟨b, 0, none⟩)) ∧ W.heap.size ≤ b ∧ SegT 103 w' M (k / 2) b w'.heap.size lo (fun i => l.getD i 0) ∧ Below W.heap.size W w') := Lib.hid fun W hW => by
      have := ih (k / 2) (by omega) lo W (by omega) (by have := hW.size; omega) (HCs.out W hW)
      rw [hmid] at this
      exact this
    have HR : Hid (∀ W, Below w.heap.size w W → Calls Try.prog 45 #[.slice (some ⟨bk, off, none⟩) n c, .int .i64 ((mid : Int) + 1), .int .i64 hi] W fun e w' => ∃ b, e = .returned (.pointer (some ⟨b, 0, none⟩)) ∧ W.heap.size ≤ b ∧ SegT 103 w' M (k - k / 2 - 1) b w'.heap.size (mid + 1) (fun i => l.getD i 0) ∧ Below W.heap.size W w') := Lib.hid fun W hW => by
      have := ih (k - k / 2 - 1) (by omega) (mid + 1) W (by omega) (by have := hW.size; omega) (HCs.out W hW)
      rw [show mid + 1 + (k - k / 2 - 1) = hi from by omega] at this
      exact this
    have hm2 : mid ≤ hi ∧ lo ≤ mid ∧ hi ≤ 300 := by omega
    have HM := Lib.hid (And.intro hhi hmid)
    have HLb := Lib.hid hl
    have hwm : IntKind.i64.wrap ((mid : Int) + 1) = (mid : Int) + 1 := IntWalk.i64_in _ (by omega)
    rw [hhi]
    have HI := Lib.hid (show k < 300 ∧ lo + k < n from ⟨by omega, hk⟩)
    clear ih hc hl hhi hmid hk
    go_enter Try.func45, Try.ntmps45
    go_upto_region 6 with fail
    generalize (w.alloc (.cells #[.int .i64 0, .int .i64 0, .bool false, .int .i64 0, .int .i64 0, .pointer none, .pointer none] 103)) = W at *
    go_upto_region 7 with (first
      | (go_at_call 45; (with_reducible refine (HL.out _ HBw.out).mono ?_); rintro e1 w1 ⟨bl, rfl, l1, l2, l3⟩; have HB1 := Lib.hid (HBw.out.trans (l3.mono HBw.out.size)); have hL1 := l1; have HL1 := Lib.hid l2; have HBL := Lib.hid l3; clear l1 l2 l3)
      | (go_at_call 45; (with_reducible refine (HR.out _ HB1.out).mono ?_); rintro e1 w2 ⟨br, rfl, r1, r2, r3⟩; have hR1 := r1; have HR1 := Lib.hid r2; have HBR := Lib.hid r3; have hzr := r3.size; have hzl := HBL.out.size; have HN := Lib.hid ((HB.out.below HBL.out (by omega)).below r3 (by omega)); have f5 := HN.out.frozen 5; have f6 := HN.out.frozen 6; have a5 := node_5 HN.out; have a6 := node_6 HN.out; clear r1 r2 r3))
    have hz7 : ((w2.setCell ⟨w.heap.size, 5, none⟩ (.pointer (some ⟨bl, 0, none⟩))).setCell ⟨w.heap.size, 6, none⟩ (.pointer (some ⟨br, 0, none⟩))).heap.size = w2.heap.size := by simp
    have hsz1 := HBL.out.size
    have HB7 : Hid (Blk ((w2.setCell ⟨w.heap.size, 5, none⟩ (.pointer (some ⟨bl, 0, none⟩))).setCell ⟨w.heap.size, 6, none⟩ (.pointer (some ⟨br, 0, none⟩))) w.heap.size 103 (nodeC 0 0 false 0 0 (some ⟨bl, 0, none⟩) (some ⟨br, 0, none⟩))) := Lib.hid ((HN.out.set_ 5 _).set_ 6 _)
    have hch : Chg w.heap.size (w.heap.size + 1) w2 ((w2.setCell ⟨w.heap.size, 5, none⟩ (.pointer (some ⟨bl, 0, none⟩))).setCell ⟨w.heap.size, 6, none⟩ (.pointer (some ⟨br, 0, none⟩))) := ((Chg.refl _ _ _).set_ (p := ⟨w.heap.size, 5, none⟩) (.inl ⟨Nat.le_refl _, Nat.lt_succ_self _⟩) _).set_ (p := ⟨w.heap.size, 6, none⟩) (.inl ⟨Nat.le_refl _, Nat.lt_succ_self _⟩) _
    have HL7 := Lib.hid ((HL1.out.far (b' := 0) (e' := 0) (Chg.of_below HBR.out) (by have := HL1.out.bounds.1; omega)).far hch (by omega))
    have HR7 := Lib.hid (HR1.out.far hch (by omega))
    have HBw7 : Hid (Below w.heap.size w ((w2.setCell ⟨w.heap.size, 5, none⟩ (.pointer (some ⟨bl, 0, none⟩))).setCell ⟨w.heap.size, 6, none⟩ (.pointer (some ⟨br, 0, none⟩)))) := Lib.hid (((HB1.out.trans (HBR.out.mono HB1.out.size)).setCell (p := ⟨w.heap.size, 5, none⟩) (Nat.le_refl _) _).setCell (p := ⟨w.heap.size, 6, none⟩) (Nat.le_refl _) _)
    clear f5 f6 a5 a6 hch
    generalize ((w2.setCell ⟨w.heap.size, 5, none⟩ (.pointer (some ⟨bl, 0, none⟩))).setCell ⟨w.heap.size, 6, none⟩ (.pointer (some ⟨br, 0, none⟩))) = W7 at *
    obtain ⟨st1, v1, ad1, p0, p1, hB1⟩ := HL7.out.head
    obtain ⟨st2, v2, ad2, p2, p3, hB2⟩ := HR7.out.head
    have hbd : ∀ i, lo ≤ i → i ≤ lo + k → -M ≤ (fun i => l.getD i 0) i ∧ (fun i => l.getD i 0) i ≤ M := fun i a1 a2 => HLb.out i (by have := HI.out.2; omega)
    have hsb1 := sum_bd (f := fun i => l.getD i 0) (lo := lo) (k := k / 2) (fun i a1 a2 => hbd i a1 (by omega)) hM0 hM (by have := HI.out.1; omega)
    have hsb2 := sum_bd (f := fun i => l.getD i 0) (lo := mid + 1) (k := k - k / 2 - 1) (fun i a1 a2 => hbd i (by have := HM.out; omega) (by have := HM.out; omega)) hM0 hM (by have := HI.out.1; omega)
    have HG := Lib.hid (gather_any w.heap.size bl br _ _ _ _ _ _ _ _ _ _ _ _ _ _ _ _ _ _ _ W7 HB7.out hB1 hB2 (by omega) (by omega) hsb1 hsb2)
    have HBd := Lib.hid hbd
    clear hB1 hB2 hsb1 hsb2 hbd
    go_wp2_with (go_at_call 68; refine (HG.out).mono ?_; rintro e1 w5 ⟨rfl, z1, z2, z3⟩; have HS5 := Lib.hid (seg_joined (w0 := W7) (e := w2.heap.size) (by omega) HI.out.1 HBd.out (by omega) (Nat.le_trans (Nat.le_refl _) hR1) (by omega) HM.out.2 HL7.out HR7.out HB7.out (Chg.refl _ _ _) z1 z2 z3 hM0); have HB5 := Lib.hid (HBw7.out.trans (z2.below (B := w.heap.size) (Nat.le_refl _) (by omega))); have hz5 := z3; clear z1 z2 z3)
    go_ret
    exact ⟨w.heap.size, rfl, Nat.le_refl _, by rw [hz5, hz7]; exact HS5.out, HB5.out⟩
end Go.Proofs.Ytnkflafkalmnmaa
