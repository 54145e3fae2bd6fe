/-
  Texts of one claim behind each other. Conditions: none of its own.
-/
import Derived.Test.YthiccmncdmohbaaGreatMGridTops41
import Derived.Test.YthiccmncdmohbaaGreatMGridTops06
import Derived.Test.YthiccmncdmohbaaGreatMGridTops43
set_option linter.unusedVariables false
set_option linter.unusedSimpArgs false
/-
  Nothing has turned but the blocks of a range, and what is new. Conditions: none; nothing here names the program.
-/
namespace Go.Dam
open Go Go.RowKit
set_option linter.unusedVariables false
/-- Nothing has turned but blocks from b on, up to e, and what is new. -/
structure ChgB (b e : Nat) (w w' : World) : Prop where
  os : w'.os = w.os
  tape : w'.tape = w.tape
  output : w'.output = w.output
  size : w.heap.size ≤ w'.heap.size
  block : ∀ k, k < w.heap.size → ¬ (b ≤ k ∧ k < e) → w'.heap[k]? = w.heap[k]?
theorem ChgB.refl (b e : Nat) (w : World) : ChgB b e w w := ⟨rfl, rfl, rfl, Nat.le_refl _, fun _ _ _ => rfl⟩
theorem ChgB.trans {b e : Nat} {u v w : World} (h : ChgB b e u v) (k : ChgB b e v w) : ChgB b e u w :=
  ⟨k.os.trans h.os, k.tape.trans h.tape, k.output.trans h.output, Nat.le_trans h.size k.size, fun i hi hn => (k.block i (Nat.lt_of_lt_of_le hi h.size) hn).trans (h.block i hi hn)⟩
theorem ChgB.mono {b e b' e' : Nat} {w w' : World} (h : ChgB b e w w') (hb : b' ≤ b) (he : e ≤ e') : ChgB b' e' w w' :=
  ⟨h.os, h.tape, h.output, h.size, fun k hk hn => h.block k hk (fun hc => hn ⟨by omega, by omega⟩)⟩
theorem ChgB.of_below {b e : Nat} {w w' : World} (h : Below w.heap.size w w') : ChgB b e w w' := ⟨h.os, h.tape, h.output, h.size, fun k hk _ => h.block k hk⟩
theorem ChgB.of_grown {b e g : Nat} {w w' : World} (h : w.grownBy w' (some g)) (hb : b ≤ g) (he : g < e) : ChgB b e w w' := ⟨h.os, h.tape, h.output, h.size, fun k hk hn => h.block k hk (fun e' => by injection e' with e'; omega)⟩
theorem ChgB.of_but {b e g : Nat} {w w' : World} (h : BelowBut w.heap.size g w w') (hb : b ≤ g) (he : g < e) : ChgB b e w w' := ⟨h.os, h.tape, h.output, h.size, fun k hk hn => h.block k hk (by omega)⟩
theorem ChgB.below {b e B : Nat} {w w' : World} (h : ChgB b e w w') (hB : B ≤ b) (hw : B ≤ w.heap.size) : Below B w w' := ⟨h.os, h.tape, h.output, h.size, fun k hk => h.block k (by omega) (by omega)⟩
theorem ChgB.drewN {b e : Nat} {w0 w : World} (h : ChgB b e w0 w) (n : Nat) : ChgB b e w0 (w.drewN n) := ⟨h.os, h.tape, h.output, h.size, h.block⟩
theorem ChgB.drew {b e : Nat} {w0 w : World} (h : ChgB b e w0 w) : ChgB b e w0 w.drew := ⟨h.os, h.tape, h.output, h.size, h.block⟩
theorem ChgB.alloc {b e : Nat} {w0 w : World} (h : ChgB b e w0 w) (o : Obj) : ChgB b e w0 (w.alloc o) :=
  ⟨h.os, h.tape, h.output, by have := h.size; simp; omega, fun k hk hn => (Below.heap_alloc w o k (Nat.lt_of_lt_of_le hk h.size)).trans (h.block k hk hn)⟩
theorem ChgB.grown {b e : Nat} {w0 w w' : World} {r : Option Nat} (h : ChgB b e w0 w) (hg : w.grownBy w' r) (hr : ∀ g, r = some g → w0.heap.size ≤ g) : ChgB b e w0 w' :=
  ⟨hg.os.trans h.os, hg.tape.trans h.tape, hg.output.trans h.output, Nat.le_trans h.size hg.size, fun k hk hn => (hg.block k (Nat.lt_of_lt_of_le hk h.size) (fun e => by have := hr k e.symm; omega)).trans (h.block k hk hn)⟩
theorem Blk.chgB {b e g : Nat} {w w' : World} {t : TypeId} {cs : Array Value} (h : Blk w g t cs) (hc : ChgB b e w w') (hg : ¬ (b ≤ g ∧ g < e)) : Blk w' g t cs := (hc.block g h.lt hg).trans h
theorem own_chgB {w w' : World} {b e base size n : Nat} {E : TypeId} {v : Value} {xs : List Value} (h : w.ownsRow base E size v n xs) (hc : ChgB b e w w') (he : e ≤ base) : w'.ownsRow base E size v n xs := by
  rcases h.2 with ⟨hv, h0⟩ | ⟨g, cap, cur, hv, hb, hg, k1, k2, k3, k4⟩
  · exact ⟨h.1, .inl ⟨hv, h0⟩⟩
  · exact ⟨h.1, .inr ⟨g, cap, cur, hv, hb, (hc.block g (Blk.lt (show Blk w g E cur from hg)) (by omega)).trans hg, k1, k2, k3, k4⟩⟩
theorem own_grownG {w w' : World} {base size n c g : Nat} {E : TypeId} {r : Option Nat} {xs : List Value} (h : w.ownsRow base E size (.slice (some ⟨g, 0, none⟩) n c) n xs) (hg : w.grownBy w' r) (hne : r ≠ some g) : w'.ownsRow base E size (.slice (some ⟨g, 0, none⟩) n c) n xs := by
  rcases h.2 with ⟨hv, h0⟩ | ⟨g1, cap, cur, hv, hb, hk, k1, k2, k3, k4⟩
  · cases hv
  · injection hv with a1 a2 a3
    injection a1 with a1
    injection a1 with a1 _ _
    subst a1
    exact ⟨h.1, .inr ⟨g, cap, cur, by rw [a3], hb, (hg.block g (Blk.lt (show Blk w g E cur from hk)) (fun e => hne e.symm)).trans hk, k1, k2, k3, k4⟩⟩
end Go.Dam

/-
  Contracts of container/heap's Init and Pop at grid's heap of places. Conditions: the heap lies in memory, its places are places of points.
-/
namespace Go.Proofs.YthiccmncdmohbaaGreat
open Go Go.RowKit Go.Dam Go.Shelf Go.Dam.Stable
set_option linter.unusedVariables false
set_option maxHeartbeats 1000000 in
theorem heapInit0_any (hb c : Nat) (A : Option Addr) (pv : Value) (w : World) (h : Blk w hb 34 #[.slice A 0 c, pv]) :
    Calls Tryz.prog 8 #[.iface 32 (.pointer (some ⟨hb, 0, none⟩))] w fun e w' => e = .returned (.tuple #[]) ∧ w' = w := by
  have HLen := Lib.hid (heapLen_any hb 0 c A pv w h)
  have hml := method_len
  go_enter Tryz.func8, Tryz.ntmps8
  go_wp2_with (go_at_call 9; refine (HLen.out).mono ?_; rintro e w1 ⟨rfl, hw⟩; obtain rfl := hw.symm)
  go_loopw [3] (fun iv wr => iv = .int .i64 (-1) ∧ wr = w) (fun _ _ => 0)
  case atStart => exact ⟨rfl, rfl⟩
  case round =>
    obtain ⟨rfl, rfl⟩ := hrel
    go_wp2_with fail
    go_end0
    exact ⟨rfl, rfl⟩
section
variable (base hb g m c np cp bk off : Nat) (l L : List Int) (w : World)
set_option maxHeartbeats 4000000 in
theorem heapInit_any (A : Option Addr) (hA : 0 < m → A = some ⟨g, 0, none⟩) (hm : m ≤ 1000) (hnp : np ≤ 1000) (h : HeapAt w base 34 3 hb A m c (.slice (some ⟨bk, off, none⟩) np cp) L) (hP : Pls np m L)
    (hbk : bk < base) (hbs : base ≤ w.heap.size) (hcs : ∀ q, q < np * 3 → w.cell? ⟨bk, off + q, none⟩ = some (.int .i64 (l.getD q 0))) :
    Calls Tryz.prog 8 #[.iface 32 (.pointer (some ⟨hb, 0, none⟩))] w fun e w' => e = .returned (.tuple #[]) ∧ HeapAt w' base 34 3 hb A m c (.slice (some ⟨bk, off, none⟩) np cp) (Heap.initF (ltH l) m (m / 2) L) ∧ w.grownBy w' (some g) := by
  have HCs := Lib.hid hcs
  have H0 := Lib.hid h
  have HP0 := Lib.hid hP
  have HA := Lib.hid hA
  have HLen := Lib.hid (heapLen_any hb m c A (.slice (some ⟨bk, off, none⟩) np cp) w h.box)
  have hml := method_len
  obtain ⟨R, hR⟩ : ∃ R, R = Heap.initF (ltH l) m (m / 2) L := ⟨_, rfl⟩
  have HR := Lib.hid hR
  rw [← hR]
  obtain ⟨k0, hk0⟩ : ∃ k, k = m / 2 := ⟨_, rfl⟩
  have e1 : ((m : Int)).tdiv 2 = (k0 : Int) := by rw [Int.tdiv_eq_ediv_of_nonneg (by omega)]; omega
  have w1 : IntKind.i64.wrap (k0 : Int) = (k0 : Int) := by rw [IntKind.wrap_i64]; omega
  have w2 : IntKind.i64.wrap ((k0 : Int) - 1) = (k0 : Int) - 1 := by rw [IntKind.wrap_i64]; omega
  have hk1 : k0 ≤ 500 := by omega
  have hgb : 0 < m → base ≤ g := fun h0 => by
    rcases h.own.2 with ⟨hx, h1⟩ | ⟨g1, cap1, cur, hv, hb, _⟩
    · rw [hA h0] at hx; cases hx
    · rw [hA h0] at hv; injection hv with hv; injection hv with hv; injection hv with hv; omega
  have HGb := Lib.hid hgb
  have HK0 := Lib.hid hk0
  rw [← HK0.out] at HR
  clear hcs h hP hR hA hk0 hgb
  go_enter Tryz.func8, Tryz.ntmps8
  go_wp2_with (go_at_call 9; refine (HLen.out).mono ?_; rintro e w1 ⟨rfl, hw⟩; obtain rfl := hw.symm)
  go_loopw [3] (fun iv wr => ∃ (k : Nat) (L' : List Int), iv = .int .i64 ((k : Int) - 1) ∧ k ≤ k0 ∧ Hid (Heap.initF (ltH l) m k L' = R) ∧ Hid (Pls np m L') ∧ Hid (HeapAt wr base 34 3 hb A m c (.slice (some ⟨bk, off, none⟩) np cp) L') ∧ Hid (w.grownBy wr (some g))) (fun iv _ => (intOf iv + 1).toNat)
  case atStart => exact ⟨k0, L, rfl, Nat.le_refl _, Lib.hid HR.out.symm, HP0, H0, Lib.hid (World.grownBy.refl _ _)⟩
  case round =>
    obtain ⟨k, L', rfl, hk, HD, HP, H, HG⟩ := hrel
    obtain ⟨wo, rfl⟩ : ∃ wo : World, wo = wr := ⟨_, rfl⟩
    by_cases h0 : k = 0
    · subst h0
      have HE : Hid (L' = R) := Lib.hid HD.out
      go_wp2_with fail
      go_end0
      exact ⟨rfl, by rw [← HE.out]; exact H.out, HG.out⟩
    · obtain ⟨k', rfl⟩ : ∃ k', k = k' + 1 := ⟨k - 1, by omega⟩
      have ek : ((k' + 1 : Nat) : Int) - 1 = (k' : Int) := by omega
      rw [ek]
      have t0 : decide ((0 : Int) ≤ (k' : Int)) = true := decide_eq_true (by omega)
      have HAe : Hid (A = some ⟨g, 0, none⟩) := Lib.hid (HA.out (by have := HK0.out; omega))
      have hbg := HGb.out (by have := HK0.out; omega)
      have HDn : Hid (Calls Tryz.prog 17 #[.iface 32 (.pointer (some ⟨hb, 0, none⟩)), .int .i64 k', .int .i64 m] wo fun e w' => (∃ b, e = .returned (.bool b)) ∧ HeapAt w' base 34 3 hb A m c (.slice (some ⟨bk, off, none⟩) np cp) (Heap.downF (ltH l) m m L' k') ∧ wo.grownBy w' (some g)) := Lib.hid (by
        have H' := H.out
        rw [HAe.out] at H' ⊢
        exact heapDown_any base hb g m c np cp bk off l L' wo k' m hm hnp (Nat.le_refl _) (by omega) H' HP.out hbk (Nat.le_trans hbs HG.out.size) fun q hq => (HG.out.cell_far ⟨bk, off + q, none⟩ (by show bk < _; omega) (by intro e; injection e with e; simp at e; omega)).trans (HCs.out q hq))
      have w3 : IntKind.i64.wrap ((k' : Int) - 1) = (k' : Int) - 1 := by rw [IntKind.wrap_i64]; omega
      clear ek
      go_wp2_with (go_at_call 17; refine (HDn.out).mono ?_; rintro e w2 ⟨⟨b, rfl⟩, hB2, hg2⟩; have HB2 := Lib.hid hB2; have HG2 := Lib.hid (HG.out.trans hg2); clear hB2 hg2)
      go_roundw
      case rel => exact ⟨k', _, rfl, by omega, HD, Lib.hid (HP.out.perm (Heap.downF_perm _ _ _ _ (by rw [HP.out.1]; exact Nat.le_refl _))), HB2, HG2⟩
      case measure => simp [intOf]
set_option maxHeartbeats 4000000 in
theorem heapPop_any (hm : m + 1 ≤ 1000) (hnp : np ≤ 1000) (h : HeapAt w base 34 3 hb (some ⟨g, 0, none⟩) (m + 1) c (.slice (some ⟨bk, off, none⟩) np cp) L) (hP : Pls np (m + 1) L)
    (hbk : bk < base) (hbs : base ≤ w.heap.size) (hbh : base ≤ hb) (hgh : g < hb) (hcs : ∀ q, q < np * 3 → w.cell? ⟨bk, off + q, none⟩ = some (.int .i64 (l.getD q 0))) :
    Calls Tryz.prog 10 #[.iface 32 (.pointer (some ⟨hb, 0, none⟩))] w fun e w' => e = .returned (.iface 3 (.int .i64 (Heap.at_ L 0))) ∧ HeapAt w' base 34 3 hb (some ⟨g, 0, none⟩) m c (.slice (some ⟨bk, off, none⟩) np cp) (Heap.restF (ltH l) L) ∧ ChgB base (hb + 1) w w' := by
  have HCs := Lib.hid hcs
  have H0 := Lib.hid h
  have HP0 := Lib.hid hP
  have HLen := Lib.hid (heapLen_any hb (m + 1) c (some ⟨g, 0, none⟩) (.slice (some ⟨bk, off, none⟩) np cp) w h.box)
  have hml := method_len
  have hms := method_swap
  have hmp := method_pop
  have hg : base ≤ g := by
    rcases h.own.2 with ⟨hx, _⟩ | ⟨g1, cap1, cur, hv, hb, _⟩
    · cases hx
    · injection hv with hv; injection hv with hv; injection hv with hv; omega
  have hL := hP.1
  have HSw := Lib.hid (heapSwap_any base hb g (m + 1) c 0 m (.slice (some ⟨bk, off, none⟩) np cp) L w hm (by omega) (by omega) hL h)
  have HPs := Lib.hid (hP.sw (i := 0) (j := m) (by omega) (by omega))
  have HDn := Lib.hid fun w1 (hA : HeapAt w1 base 34 3 hb (some ⟨g, 0, none⟩) (m + 1) c (.slice (some ⟨bk, off, none⟩) np cp) (Heap.sw L 0 m)) (hG : w.grownBy w1 (some g)) =>
    heapDown_any base hb g (m + 1) c np cp bk off l (Heap.sw L 0 m) w1 0 m hm hnp (by omega) (by omega) hA HPs.out hbk (Nat.le_trans hbs hG.size) fun q hq => (hG.cell_far ⟨bk, off + q, none⟩ (by show bk < _; omega) (by intro e; injection e with e; simp at e; omega)).trans (HCs.out q hq)
  have HE : Hid ((Heap.downF (ltH l) m m (Heap.sw L 0 m) 0).getD m 0 = Heap.at_ L 0 ∧ (Heap.downF (ltH l) m m (Heap.sw L 0 m) 0).take m = Heap.restF (ltH l) L ∧ (Heap.downF (ltH l) m m (Heap.sw L 0 m) 0).length = m + 1) := Lib.hid (by
    have h1 := Heap.pop_at (lt := ltH l) (L := L) (by omega)
    rw [hL, Nat.add_sub_cancel] at h1
    refine ⟨h1, ?_, by rw [Heap.downF_len, Heap.sw_len, hL]⟩
    unfold Heap.restF
    rw [hL, Nat.add_sub_cancel])
  have e1 : ((m + 1 : Nat) : Int) - 1 = (m : Int) := by omega
  have w1 : IntKind.i64.wrap (m : Int) = (m : Int) := by rw [IntKind.wrap_i64]; omega
  clear hcs h hP hL
  go_enter Tryz.func10, Tryz.ntmps10
  go_wp2_with (first
    | (go_at_call 9; refine (HLen.out).mono ?_; rintro e w1 ⟨rfl, hw⟩; obtain rfl := hw.symm)
    | (go_at_call 116; refine (HSw.out).mono ?_; rintro e w2 ⟨rfl, hB2, hg2⟩; have HB2 := Lib.hid hB2; have HG2 := Lib.hid hg2; clear hB2 hg2)
    | (go_at_call 17; refine (HDn.out _ HB2.out HG2.out).mono ?_; rintro e w3 ⟨⟨b, rfl⟩, hB3, hg3⟩; have HB3 := Lib.hid hB3; have HG3 := Lib.hid (HG2.out.trans hg3); clear hB3 hg3)
    | (go_at_call 115; refine (heapPop1_any base hb g m c _ _ w3 hm HE.out.2.2 HB3.out).mono ?_; rintro e w4 ⟨rfl, hB4, hb4⟩; have HB4 := Lib.hid hB4; have HG4 := Lib.hid hb4; clear hB4 hb4))
  go_ret
  have hE := HE.out.1
  rw [List.getD_eq_getElem?_getD] at hE
  exact ⟨by show Ending.returned (.iface _ (.int .i64 ((Heap.downF (ltH l) m m (Heap.sw L 0 m) 0)[m]?.getD 0))) = _; rw [hE], by rw [← HE.out.2.1]; exact HB4.out, (ChgB.of_grown HG3.out hg (by omega)).trans (ChgB.of_but HG4.out hbh (by omega))⟩
end
end Go.Proofs.YthiccmncdmohbaaGreat
