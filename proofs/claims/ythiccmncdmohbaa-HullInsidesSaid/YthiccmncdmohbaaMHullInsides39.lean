/-
  Contract of the closure of hull.Inside that counts an edge's places. Conditions: coordinates within 2^20 either way.
-/
import Derived.Test.YthiccmncdmohbaaMHullInsides37
import Derived.Test.YthiccmncdmohbaaMHullInsides35
import Derived.Test.YthiccmncdmohbaaMHullInsides38
set_option linter.unusedVariables false
set_option linter.unusedSimpArgs false
namespace Go.Proofs.Ythiccmncdmohbaa
open Go Go.RowKit Go.Dam Go.Dam.Hull
set_option linter.unusedVariables false
set_option maxRecDepth 100000 in
set_option maxHeartbeats 4000000 in
theorem hullInside1_any (xa ya za xb yb zb s : Int) (gB : Nat) (t : TypeId) (w : World) (hB : Blk w gB t #[.int .i64 s]) (h1 : okC xa) (h2 : okC ya) (h3 : okC xb) (h4 : okC yb) (h5 : 0 ≤ s) (h6 : s ≤ 2305843009213693952) :
    Calls Try.prog 24 #[.agg #[.int .i64 xa, .int .i64 ya, .int .i64 za], .agg #[.int .i64 xb, .int .i64 yb, .int .i64 zb], .pointer (some ⟨gB, 0, none⟩)] w fun e w' => e = .returned (.tuple #[]) ∧
      BelowBut w.heap.size gB w w' ∧ Blk w' gB t #[.int .i64 (s + Int.gcd (xb - xa) (yb - ya))] := by
  unfold okC at *
  obtain ⟨d, hd⟩ : ∃ d, d = xb - xa := ⟨_, rfl⟩
  obtain ⟨f, hf⟩ : ∃ d, d = yb - ya := ⟨_, rfl⟩
  have w1 : IntKind.i64.wrap (xb - xa) = d := by rw [IntKind.wrap_i64]; omega
  have w2 : IntKind.i64.wrap (yb - ya) = f := by rw [IntKind.wrap_i64]; omega
  rw [← hd, ← hf]
  have hg : Int.gcd d f ≤ 4194304 := by
    rcases Int.lt_trichotomy d 0 with c | c | c
    · have := Nat.gcd_le_left f.natAbs (show 0 < d.natAbs by omega); unfold Int.gcd; omega
    · rw [c, Int.gcd_zero_left]; omega
    · have := Nat.gcd_le_left f.natAbs (show 0 < d.natAbs by omega); unfold Int.gcd; omega
  have HG := Lib.hid fun W => hullGcd_any d f W (by omega) (by omega)
  obtain ⟨g, hgg⟩ : ∃ g : Nat, g = Int.gcd d f := ⟨_, rfl⟩
  rw [← hgg] at hg HG ⊢
  have w3 : IntKind.i64.wrap (s + (g : Int)) = s + (g : Int) := by rw [IntKind.wrap_i64]; omega
  have lt := hB.lt
  have hb2 : Blk ((w.alloc (.cells #[.int .i64 xa, .int .i64 ya, .int .i64 za] 63)).alloc (.cells #[.int .i64 xb, .int .i64 yb, .int .i64 zb] 63)) gB t #[.int .i64 s] := (hB.alloc _).alloc _
  have HB2 := Lib.hid hb2
  have HBW : Hid (BelowBut w.heap.size gB w ((w.alloc (.cells #[.int .i64 xa, .int .i64 ya, .int .i64 za] 63)).alloc (.cells #[.int .i64 xb, .int .i64 yb, .int .i64 zb] 63))) := Lib.hid (((BelowBut.refl _ _ _).alloc (Nat.le_refl _) _).alloc (by simp) _)
  have c0 : ((w.alloc (.cells #[.int .i64 xa, .int .i64 ya, .int .i64 za] 63)).alloc (.cells #[.int .i64 xb, .int .i64 yb, .int .i64 zb] 63)).cell? ⟨gB, 0, none⟩ = some (.int .i64 s) := hb2.cell 0
  have f0 := hb2.frozen 0
  have HJ1 := Lib.hid ((Blk.new w 63 #[.int .i64 xa, .int .i64 ya, .int .i64 za]).alloc (.cells #[.int .i64 xb, .int .i64 yb, .int .i64 zb] 63))
  have HJ2 := Lib.hid (Blk.new_at (w.alloc (.cells #[.int .i64 xa, .int .i64 ya, .int .i64 za] 63)) 63 #[.int .i64 xb, .int .i64 yb, .int .i64 zb] (w.heap.size + 1) (by simp))
  have a0 : _ = some (Value.int .i64 xa) := (HJ1.out.cell 0).trans rfl
  have a1 : _ = some (Value.int .i64 ya) := (HJ1.out.cell 1).trans rfl
  have b0 : _ = some (Value.int .i64 xb) := (HJ2.out.cell 0).trans rfl
  have b1 : _ = some (Value.int .i64 yb) := (HJ2.out.cell 1).trans rfl
  clear hd hf h1 h2 h3 h4 hgg hB hb2
  go_enter Try.func24, Try.ntmps24
  go_wp2_with fail
  generalize (w.alloc (.cells #[.int .i64 xa, .int .i64 ya, .int .i64 za] 63)).alloc (.cells #[.int .i64 xb, .int .i64 yb, .int .i64 zb] 63) = W2 at *
  have hfar : ∀ q x k j, gB ≠ k → ((W2.drewN q).setCell ⟨gB, 0, none⟩ x).cell? ⟨k, j, none⟩ = W2.cell? ⟨k, j, none⟩ := fun q x k j h => World.cell?_setCell_other _ _ _ _ (fun e => h (by injection e with e))
  have A0 := Lib.hid fun q x => (hfar q x w.heap.size 0 (by omega)).trans a0
  have A1 := Lib.hid fun q x => (hfar q x w.heap.size 1 (by omega)).trans a1
  have B0 := Lib.hid fun q x => (hfar q x (w.heap.size + 1) 0 (by omega)).trans b0
  have B1 := Lib.hid fun q x => (hfar q x (w.heap.size + 1) 1 (by omega)).trans b1
  clear hfar
  refine wp_region_held (S := (fun W => W.cell? ⟨w.heap.size, 0, none⟩ = some (.int .i64 xa) ∧ W.cell? ⟨w.heap.size, 1, none⟩ = some (.int .i64 ya) ∧ W.cell? ⟨w.heap.size + 1, 0, none⟩ = some (.int .i64 xb) ∧ W.cell? ⟨w.heap.size + 1, 1, none⟩ = some (.int .i64 yb))) (by kernel_rfl) ?_
  have hS0 : (fun W => W.cell? ⟨w.heap.size, 0, none⟩ = some (.int .i64 xa) ∧ W.cell? ⟨w.heap.size, 1, none⟩ = some (.int .i64 ya) ∧ W.cell? ⟨w.heap.size + 1, 0, none⟩ = some (.int .i64 xb) ∧ W.cell? ⟨w.heap.size + 1, 1, none⟩ = some (.int .i64 yb)) W2.drew := ⟨a0, a1, b0, b1⟩
  refine wpAnyH_take (i := 1) (v := ?_) rfl (by kernel_rfl) (by kernel_rfl) (by kernel_rfl) (fun _ _ _ h => h) (Or.inl ⟨by rfl, ?_⟩) (by assumption) ?_
  rotate_left
  · intro w hSw; (try dsimp only at hSw); go_simp; try with_reducible rfl
  try simp only [Act.put, List.setIfInBounds_toArray, List.set_cons_zero, List.set_cons_succ]
  refine wpAnyH_take (i := 2) (v := ?_) rfl (by kernel_rfl) (by kernel_rfl) (by kernel_rfl) (fun _ _ _ h => h) (Or.inl ⟨by rfl, ?_⟩) (by assumption) ?_
  rotate_left
  · intro w hSw; (try dsimp only at hSw); go_simp; try with_reducible rfl
  try simp only [Act.put, List.setIfInBounds_toArray, List.set_cons_zero, List.set_cons_succ]
  refine wpAnyH_take (i := 3) (v := ?_) rfl (by kernel_rfl) (by kernel_rfl) (by kernel_rfl) (fun _ _ _ h => h) (Or.inl ⟨by rfl, ?_⟩) (by assumption) ?_
  rotate_left
  · intro w hSw; (try dsimp only at hSw); go_simp; try with_reducible rfl
  try simp only [Act.put, List.setIfInBounds_toArray, List.set_cons_zero, List.set_cons_succ]
  refine wpAnyH_take (i := 4) (v := ?_) rfl (by kernel_rfl) (by kernel_rfl) (by kernel_rfl) (fun _ _ _ h => h) (Or.inl ⟨by rfl, ?_⟩) (by assumption) ?_
  rotate_left
  · intro w hSw; (try dsimp only at hSw); go_simp; try with_reducible rfl
  try simp only [Act.put, List.setIfInBounds_toArray, List.set_cons_zero, List.set_cons_succ]
  refine wpAnyH_take (i := 5) (v := ?_) rfl (by kernel_rfl) (by kernel_rfl) (by kernel_rfl) (fun _ _ _ h => h) (Or.inl ⟨by rfl, ?_⟩) (by assumption) ?_
  rotate_left
  · intro w hSw; (try dsimp only at hSw); go_simp; try with_reducible rfl
  try simp only [Act.put, List.setIfInBounds_toArray, List.set_cons_zero, List.set_cons_succ]
  refine wpAnyH_take (i := 6) (v := ?_) rfl (by kernel_rfl) (by kernel_rfl) (by kernel_rfl) (fun _ _ _ h => h) (Or.inl ⟨by rfl, ?_⟩) (by assumption) ?_
  rotate_left
  · intro w hSw; (try dsimp only at hSw); go_simp; try with_reducible rfl
  try simp only [Act.put, List.setIfInBounds_toArray, List.set_cons_zero, List.set_cons_succ]
  refine wpAnyH_take (i := 7) (v := ?_) rfl (by kernel_rfl) (by kernel_rfl) (by kernel_rfl) (fun _ _ _ h => h) (Or.inl ⟨by rfl, ?_⟩) (by assumption) ?_
  rotate_left
  · intro w hSw; (try dsimp only at hSw); go_simp; try with_reducible rfl
  try simp only [Act.put, List.setIfInBounds_toArray, List.set_cons_zero, List.set_cons_succ]
  refine wpAnyH_take (i := 8) (v := ?_) rfl (by kernel_rfl) (by kernel_rfl) (by kernel_rfl) (fun _ _ _ h => h) (Or.inl ⟨by rfl, ?_⟩) (by assumption) ?_
  rotate_left
  · intro w hSw; (try dsimp only at hSw); go_simp; try with_reducible rfl
  try simp only [Act.put, List.setIfInBounds_toArray, List.set_cons_zero, List.set_cons_succ]
  refine wpAnyH_take (i := 9) (v := ?_) rfl (by kernel_rfl) (by kernel_rfl) (by kernel_rfl) (fun _ _ _ h => h) (Or.inl ⟨by rfl, ?_⟩) (by assumption) ?_
  rotate_left
  · intro w hSw; (try dsimp only at hSw); go_simp; try with_reducible rfl
  try simp only [Act.put, List.setIfInBounds_toArray, List.set_cons_zero, List.set_cons_succ]
  refine wpAnyH_take (i := 10) (v := ?_) rfl (by kernel_rfl) (by kernel_rfl) (by kernel_rfl) (fun _ _ _ h => h) (Or.inl ⟨by rfl, ?_⟩) (by assumption) ?_
  rotate_left
  · intro w hSw; (try dsimp only at hSw); go_simp; try with_reducible rfl
  try simp only [Act.put, List.setIfInBounds_toArray, List.set_cons_zero, List.set_cons_succ]
  refine wpAnyH_ready (rs := [0, 11]) (by kernel_rfl) (by simp) ?_
  refine AllReadyH.cons rfl (fun K hK => ?_) (AllReadyH.cons rfl (fun K hK => ?_) AllReadyH.nil)
  · go_simp
    refine hK.out _ _ ?_ (fun hHeld => ?_)
    · exact ⟨a0, a1, b0, b1⟩
    clear hK K
    try simp only [Act.put, List.setIfInBounds_toArray, List.set_cons_zero, List.set_cons_succ]
    refine wpAnyH_ready (rs := [11]) (by kernel_rfl) (by simp) ?_
    refine AllReadyH.cons rfl (fun K hK => ?_) AllReadyH.nil
    go_simp
    (go_at_call 25; refine (HG.out _).mono ?_; rintro e w' ⟨rfl, q, rfl⟩)
    go_wp2_with fail
    refine hK.out _ _ ?_ (fun hHeld => ?_)
    · exact ⟨a0, a1, b0, b1⟩
    clear hK K
    try simp only [Act.put, List.setIfInBounds_toArray, List.set_cons_zero, List.set_cons_succ]
    refine wpAnyH_take (i := 12) (v := ?_) rfl (by kernel_rfl) (by kernel_rfl) (by kernel_rfl) (fun _ _ _ h => h) (Or.inl ⟨by rfl, ?_⟩) (by assumption) ?_
    rotate_left
    · intro w hSw; (try dsimp only at hSw); go_simp; try with_reducible rfl
    try simp only [Act.put, List.setIfInBounds_toArray, List.set_cons_zero, List.set_cons_succ]
    refine wpAnyH_ready (rs := [13]) (by kernel_rfl) (by simp) ?_
    refine AllReadyH.cons rfl (fun K hK => ?_) AllReadyH.nil
    go_simp
    refine hK.out _ _ ?_ (fun hHeld => ?_)
    · exact ⟨A0.out _ _, A1.out _ _, B0.out _ _, B1.out _ _⟩
    clear hK K
    try simp only [Act.put, List.setIfInBounds_toArray, List.set_cons_zero, List.set_cons_succ]
    refine wpAnyH_done (by kernel_rfl) ?_ _
    go_end0
    exact ⟨rfl, ((HBW.out.trans (.of_below (below_drewN (Below.refl _ _) _)))).setCell _ 0, (HB2.out.drewN _).set_ 0 _⟩
  · go_simp
    (go_at_call 25; refine (HG.out _).mono ?_; rintro e w' ⟨rfl, q, rfl⟩)
    go_wp2_with fail
    refine hK.out _ _ ?_ (fun hHeld => ?_)
    · exact ⟨a0, a1, b0, b1⟩
    clear hK K
    try simp only [Act.put, List.setIfInBounds_toArray, List.set_cons_zero, List.set_cons_succ]
    refine wpAnyH_ready (rs := [0]) (by kernel_rfl) (by simp) ?_
    refine AllReadyH.cons rfl (fun K hK => ?_) AllReadyH.nil
    go_simp
    refine hK.out _ _ ?_ (fun hHeld => ?_)
    · exact ⟨a0, a1, b0, b1⟩
    clear hK K
    try simp only [Act.put, List.setIfInBounds_toArray, List.set_cons_zero, List.set_cons_succ]
    refine wpAnyH_take (i := 12) (v := ?_) rfl (by kernel_rfl) (by kernel_rfl) (by kernel_rfl) (fun _ _ _ h => h) (Or.inl ⟨by rfl, ?_⟩) (by assumption) ?_
    rotate_left
    · intro w hSw; (try dsimp only at hSw); go_simp; try with_reducible rfl
    try simp only [Act.put, List.setIfInBounds_toArray, List.set_cons_zero, List.set_cons_succ]
    refine wpAnyH_ready (rs := [13]) (by kernel_rfl) (by simp) ?_
    refine AllReadyH.cons rfl (fun K hK => ?_) AllReadyH.nil
    go_simp
    refine hK.out _ _ ?_ (fun hHeld => ?_)
    · exact ⟨A0.out _ _, A1.out _ _, B0.out _ _, B1.out _ _⟩
    clear hK K
    try simp only [Act.put, List.setIfInBounds_toArray, List.set_cons_zero, List.set_cons_succ]
    refine wpAnyH_done (by kernel_rfl) ?_ _
    go_end0
    exact ⟨rfl, ((HBW.out.trans (.of_below (below_drewN (Below.refl _ _) _)))).setCell _ 0, (HB2.out.drewN _).set_ 0 _⟩
end Go.Proofs.Ythiccmncdmohbaa
