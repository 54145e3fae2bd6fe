/-
  Contracts of package seg's tree: an operation on all of a tree, and what a node tells its parts. Conditions: the numbers are bounded.
-/
import Derived.Test.YtnkflafkalmnmaaMTopUnits21
import Derived.Deep.RegionWith
namespace Go.Dam
open Go Go.RowKit
theorem mul_bd {c M : Int} {k : Nat} (h : -M ≤ c ∧ c ≤ M) (hM : M ≤ 1073741824) (hk : k < 300) : -1099511627776 ≤ c * ((k : Int) + 1) ∧ c * ((k : Int) + 1) ≤ 1099511627776 := by
  have h0 : (0 : Int) ≤ (k : Int) + 1 := by omega
  have a1 := Int.mul_le_mul_of_nonneg_right h.1 h0
  have a2 := Int.mul_le_mul_of_nonneg_right h.2 h0
  have a3 : M * ((k : Int) + 1) ≤ 1073741824 * ((k : Int) + 1) := Int.mul_le_mul_of_nonneg_right hM h0
  rw [Int.neg_mul] at a1
  omega
theorem sum_bd {f : Nat → Int} {lo k : Nat} {M : Int} (h : ∀ i, lo ≤ i → i ≤ lo + k → -M ≤ f i ∧ f i ≤ M) (hM0 : 0 ≤ M) (hM : M ≤ 1073741824) (hk : k < 300) : -1099511627776 ≤ sumF f lo k ∧ sumF f lo k ≤ 1099511627776 := by
  have a := sumF_bound k h
  have b := mul_bd (c := M) (M := M) (k := k) ⟨by omega, Int.le_refl _⟩ hM hk
  omega
end Go.Dam
namespace Go.Proofs.Ytnkflafkalmnmaa
open Go Go.RowKit Go.Dam
set_option linter.unusedVariables false
theorem segSet_any {M : Int} {k b e lo : Nat} {f : Nat → Int} (x y c : Int) (w : World) (h : SegT 103 w M k b e lo f) (hc : -M ≤ c ∧ c ≤ M) (hM : M ≤ 1073741824) (hk : k < 300) :
    Calls Try.prog 69 #[.pointer (some ⟨b, 0, none⟩), .agg #[.int .i64 2, .int .i64 x, .int .i64 y, .int .i64 c], .int .i64 ((k : Int) + 1)] w fun e' w' => e' = .returned (.tuple #[]) ∧ SegT 103 w' M k b e lo (fun _ => c) ∧ Chg b e w w' := by
  have hb := mul_bd hc hM hk
  have hbe := h.bounds.1
  cases h with
  | leaf h1 h2 h3 h4 =>
    refine (doSet_any b _ _ x y c _ _ _ _ _ _ w h1 hb).mono ?_
    rintro e' w' ⟨rfl, hB, hC⟩
    have e0 : c * (((0 : Nat) : Int) + 1) = c := by simp
    rw [e0] at hB
    exact ⟨rfl, .leaf hB h2 (Nat.le_trans h3 hC.size) hc, hC.mono (Nat.le_refl _) (by omega)⟩
  | node h0 h1 h2 h3 h4 hL hR h5 h6 h7 =>
    refine (doSet_any b _ _ x y c _ _ _ _ _ _ w h1 hb).mono ?_
    rintro e' w' ⟨rfl, hB, hC⟩
    have := hL.bounds.1
    refine ⟨rfl, .node h0 (by rw [leastF_const, sumF_const]; exact hB) h2 h3 (Nat.le_trans h4 hC.size) (hL.far hC (by omega)) (hR.far hC (by omega)) hc (fun i _ _ => by rw [if_pos rfl]; omega) (fun _ _ _ => hc), hC.mono (Nat.le_refl _) (by omega)⟩
theorem segAdd_any {M : Int} {k b e lo : Nat} {f : Nat → Int} (x y c : Int) (w : World) (h : SegT 103 w M k b e lo f) (hc : ∀ i, lo ≤ i → i ≤ lo + k → -M ≤ f i + c ∧ f i + c ≤ M) (hM0 : 0 ≤ M) (hM : M ≤ 1073741824) (hk : k < 300) :
    Calls Try.prog 69 #[.pointer (some ⟨b, 0, none⟩), .agg #[.int .i64 1, .int .i64 x, .int .i64 y, .int .i64 c], .int .i64 ((k : Int) + 1)] w fun e' w' => e' = .returned (.tuple #[]) ∧ SegT 103 w' M k b e lo (fun i => f i + c) ∧ Chg b e w w' := by
  have hbs := h.bounds
  have hf0 := hbs.2.2 lo (by omega) (by omega)
  have hc0 := hc lo (by omega) (by omega)
  have hb := mul_bd (c := c) (M := 2147483648) (k := k)
  have hcb : -1099511627776 ≤ c * ((k : Int) + 1) ∧ c * ((k : Int) + 1) ≤ 1099511627776 := by
    have h0 : (0 : Int) ≤ (k : Int) + 1 := by omega
    have a1 := Int.mul_le_mul_of_nonneg_right (show -2147483648 ≤ c by omega) h0
    have a2 := Int.mul_le_mul_of_nonneg_right (show c ≤ 2147483648 by omega) h0
    omega
  have hl1 := leastF_bound k hc
  have hs1 := sum_bd hc hM0 hM hk
  rw [leastF_add] at hl1
  rw [sumF_add] at hs1
  have hl2 : -1099511627776 ≤ leastF f lo k + c ∧ leastF f lo k + c ≤ 1099511627776 := by omega
  cases h with
  | leaf h1 h2 h3 h4 =>
    have hl3 := hl2
    rw [leastF_0] at hl3
    have hs3 := hs1
    rw [sumF_0] at hs3
    refine (doAdd_any b _ _ x y c _ _ _ _ _ _ w h1 hl3 hcb hs3).mono ?_
    rintro e' w' ⟨rfl, hB, hC⟩
    have e0 : c * (((0 : Nat) : Int) + 1) = c := by simp
    rw [e0] at hB
    exact ⟨rfl, .leaf (f := fun i => f i + c) hB h2 (Nat.le_trans h3 hC.size) hc0, hC.mono (Nat.le_refl _) (by omega)⟩
  | @node _ _ _ _ bl el br _ g st tv ad h0 h1 h2 h3 h4 hL hR h5 h6 h7 =>
    refine (doAdd_any b _ _ x y c _ _ _ _ _ _ w h1 hl2 hcb hs1).mono ?_
    rintro e' w' ⟨rfl, hB, hC⟩
    have hg := hL.bounds
    have hg0 := hg.2.2 lo (by omega) (by omega)
    have hfa := h6 lo (by omega) (by omega)
    have hw : IntKind.i64.wrap (ad + c) = ad + c := IntWalk.i64_in _ (by
      cases st
      · rw [if_neg (by decide)] at hfa; omega
      · rw [if_pos rfl] at hfa; omega)
    rw [hw] at hB
    refine ⟨rfl, .node (f := fun i => f i + c) h0 (by rw [leastF_add, sumF_add]; exact hB) h2 h3 (Nat.le_trans h4 hC.size) (hL.far hC (by omega)) (hR.far hC (by omega)) h5 (fun i a b => by show f i + c = _; rw [h6 i a b]; omega) hc, hC.mono (Nat.le_refl _) (by omega)⟩
/-- What a node's parts hold while they are told. -/
def Told (M : Int) (w0 : World) (b e bl el br lo k : Nat) (ls sm tv ad : Int) (st : Bool) (z0 z1 : Int) (fl fr : Nat → Int) (wr : World) : Prop :=
  Blk wr b 103 (nodeC ls sm st tv ad (some ⟨bl, 0, none⟩) (some ⟨br, 0, none⟩)) ∧ Blk wr w0.heap.size 114 #[.int .i64 z0, .int .i64 z1] ∧ SegT 103 wr M (k / 2) bl el lo fl ∧ SegT 103 wr M (k - k / 2 - 1) br e (lo + k / 2 + 1) fr ∧ Chg b e w0 wr
theorem Told.left_ {M : Int} {w0 wr w2 : World} {b e bl el br lo k : Nat} {ls sm tv ad z0 z1 : Int} {st : Bool} {fl fr fl' : Nat → Int} (h : Told M w0 b e bl el br lo k ls sm tv ad st z0 z1 fl fr wr) (h2 : b < bl) (h3 : el ≤ br) (he : e ≤ w0.heap.size) (hs : SegT 103 w2 M (k / 2) bl el lo fl') (hc : Chg bl el wr w2) : Told M w0 b e bl el br lo k ls sm tv ad st z0 z1 fl' fr w2 := by
  obtain ⟨a1, a2, a3, a4, a5⟩ := h
  have := a3.bounds.1
  have := a4.bounds.1
  exact ⟨a1.chg hc (by omega), a2.chg hc (by omega), hs, a4.far hc (by omega), a5.trans (hc.mono (by omega) (by omega))⟩
theorem Told.right_ {M : Int} {w0 wr w2 : World} {b e bl el br lo k : Nat} {ls sm tv ad z0 z1 : Int} {st : Bool} {fl fr fr' : Nat → Int} (h : Told M w0 b e bl el br lo k ls sm tv ad st z0 z1 fl fr wr) (h2 : b < bl) (h3 : el ≤ br) (he : e ≤ w0.heap.size) (hs : SegT 103 w2 M (k - k / 2 - 1) br e (lo + k / 2 + 1) fr') (hc : Chg br e wr w2) : Told M w0 b e bl el br lo k ls sm tv ad st z0 z1 fl fr' w2 := by
  obtain ⟨a1, a2, a3, a4, a5⟩ := h
  have := a3.bounds.1
  have := a4.bounds.1
  exact ⟨a1.chg hc (by omega), a2.chg hc (by omega), a3.far hc (by omega), hs, a5.trans (hc.mono (by omega) (by omega))⟩
theorem _root_.Go.Dam.SegT.same {T : TypeId} {M : Int} {w W : World} {k b e lo : Nat} {f : Nat → Int} (h : SegT T w M k b e lo f) (hc : Chg 0 0 w W) : SegT T W M k b e lo f := h.far hc (by have := h.bounds.1; omega)
/-- What is told. -/
def toldF (st : Bool) (tv ad : Int) (g : Nat → Int) (i : Nat) : Int := (if st then tv else g i) + ad
set_option maxRecDepth 100000 in
set_option maxHeartbeats 8000000 in
theorem tell_any {M : Int} {k b e lo bl el br : Nat} {g : Nat → Int} {ls sm tv ad : Int} {st : Bool} (w : World) (hk0 : 0 < k) (hk : k < 300) (hlo : lo ≤ 1000)
    (hB : Blk w b 103 (nodeC ls sm st tv ad (some ⟨bl, 0, none⟩) (some ⟨br, 0, none⟩))) (h2 : b < bl) (h3 : el ≤ br)
    (hL : SegT 103 w M (k / 2) bl el lo g) (hR : SegT 103 w M (k - k / 2 - 1) br e (lo + k / 2 + 1) g) (h5 : -M ≤ tv ∧ tv ≤ M) (h7 : ∀ i, lo ≤ i → i ≤ lo + k → -M ≤ toldF st tv ad g i ∧ toldF st tv ad g i ≤ M) (hM0 : 0 ≤ M) (hM : M ≤ 1073741824) :
    Calls Try.prog 70 #[.pointer (some ⟨b, 0, none⟩), .int .i64 lo, .int .i64 (lo + k / 2 : Nat), .int .i64 (lo + k : Nat)] w fun e' w' => e' = .returned (.tuple #[]) ∧ Blk w' b 103 (nodeC ls sm false 0 0 (some ⟨bl, 0, none⟩) (some ⟨br, 0, none⟩)) ∧ SegT 103 w' M (k / 2) bl el lo (toldF st tv ad g) ∧ SegT 103 w' M (k - k / 2 - 1) br e (lo + k / 2 + 1) (toldF st tv ad g) ∧ Chg b e w w' := by
  have hbl := hL.bounds
  have hbr := hR.bounds
  have hbk := hB.lt
  have HT : Hid (Told M w b e bl el br lo k ls sm tv ad st ((k / 2 : Nat) + 1 : Int) ((k - k / 2 - 1 : Nat) + 1 : Int) g g (w.alloc (.cells #[.int .i64 ((k / 2 : Nat) + 1 : Int), .int .i64 ((k - k / 2 - 1 : Nat) + 1 : Int)] 114))) := Lib.hid
    ⟨hB.alloc _, Blk.new _ _ _, hL.far (b' := 0) (e' := 0) ((Chg.refl _ _ _).alloc _) (by omega), hR.far (b' := 0) (e' := 0) ((Chg.refl _ _ _).alloc _) (by omega), (Chg.refl _ _ _).alloc _⟩
  have e1 : ((lo + k / 2 : Nat) : Int) - (lo : Int) + 1 = ((k / 2 : Nat) : Int) + 1 := by omega
  have e2 : ((lo + k : Nat) : Int) - ((lo + k / 2 : Nat) : Int) = ((k - k / 2 - 1 : Nat) : Int) + 1 := by omega
  obtain ⟨z0, hz0⟩ : ∃ z, ((k / 2 : Nat) : Int) + 1 = z := ⟨_, rfl⟩
  obtain ⟨z1, hz1⟩ : ∃ z, ((k - k / 2 - 1 : Nat) : Int) + 1 = z := ⟨_, rfl⟩
  rw [hz0] at e1
  rw [hz1] at e2
  rw [hz0, hz1] at HT
  have i0 : ∀ x0 x1 (w : World), (Instr.index 101 (.agg #[x0, x1]) (.int .i64 0)).run Try.prog w = .ok x0 w := fun _ _ _ => by kernel_rfl
  have i1 : ∀ x0 x1 (w : World), (Instr.index 101 (.agg #[x0, x1]) (.int .i64 1)).run Try.prog w = .ok x1 w := fun _ _ _ => by kernel_rfl
  obtain ⟨mid, hmid⟩ : ∃ m : Nat, lo + k / 2 = m := ⟨_, rfl⟩
  obtain ⟨hi, hhi⟩ : ∃ m : Nat, lo + k = m := ⟨_, rfl⟩
  rw [hmid] at e1 e2
  rw [hhi] at e2
  rw [hhi, hmid]
  have c1 : (mid : Int) ≤ 2000 := by omega
  have c2 : (hi : Int) ≤ 2000 := by omega
  have HZ := Lib.hid (And.intro hz0 hz1)
  clear hz0 hz1
  go_enter Try.func70, Try.ntmps70
  go_upto_region 1 with fail
  generalize w.alloc (.cells #[.int .i64 z0, .int .i64 z1] 114) = W at *
  have k5 := node_5 HT.out.1
  have k6 := node_6 HT.out.1
  have H7 := Lib.hid h7
  have hesz := hbr.2.1
  clear h7 hB hL hR hbl hbr
  go_wp2_with fail
  clear k5 k6
  go_loopw [9, 10, 23] (fun _ _ iv wr => (iv = .int .i64 0 ∧ Hid (Told M w b e bl el br lo k ls sm tv ad st z0 z1 g g wr)) ∨ (iv = .int .i64 1 ∧ Hid (Told M w b e bl el br lo k ls sm tv ad st z0 z1 (toldF st tv ad g) g wr)) ∨ (iv = .int .i64 2 ∧ Hid (Told M w b e bl el br lo k ls sm tv ad st z0 z1 (toldF st tv ad g) (toldF st tv ad g) wr))) (fun _ _ iv _ => 2 - (intOf iv).toNat)
  case atStart => exact .inl ⟨rfl, HT⟩
  case round =>
    clear HT
    rcases hrel with ⟨rfl, HT⟩ | ⟨rfl, HT⟩ | ⟨rfl, HT⟩
    · have k2 := node_2 HT.out.1
      have k4 := node_4 HT.out.1
      have k3 := node_3 HT.out.1
      have q0 := (HT.out.2.1.cell 0).trans rfl
      have q1 := (HT.out.2.1.cell 1).trans rfl
      have HSet : Hid (∀ W, Chg 0 0 wr W → Calls Try.prog 69 #[.pointer (some ⟨bl, 0, none⟩), .agg #[.int .i64 2, .int .i64 0, .int .i64 0, .int .i64 tv], .int .i64 z0] W fun e' w' => e' = .returned (.tuple #[]) ∧ SegT 103 w' M (k / 2) bl el lo (fun _ => tv) ∧ Chg bl el W w') := Lib.hid fun W hW => by rw [← HZ.out.1]; exact segSet_any 0 0 tv W (HT.out.2.2.1.same hW) h5 hM (by omega)
      have HAdd : Hid (∀ f W, SegT 103 W M (k / 2) bl el lo f → (∀ i, lo ≤ i → i ≤ lo + (k / 2) → f i + ad = toldF st tv ad g i) → Calls Try.prog 69 #[.pointer (some ⟨bl, 0, none⟩), .agg #[.int .i64 1, .int .i64 0, .int .i64 0, .int .i64 ad], .int .i64 z0] W fun e' w' => e' = .returned (.tuple #[]) ∧ SegT 103 w' M (k / 2) bl el lo (toldF st tv ad g) ∧ Chg bl el W w') := Lib.hid fun f W hs hf => by
        rw [← HZ.out.1]
        refine (segAdd_any 0 0 ad W hs (fun i a1 a2 => by rw [hf i a1 a2]; exact H7.out i (by omega) (by omega)) hM0 hM (by omega)).mono ?_
        rintro e' w' ⟨rfl, h8, h9⟩
        exact ⟨rfl, h8.congr hf, h9⟩
      have HNo : Hid (ad = 0 → ∀ f W, SegT 103 W M (k / 2) bl el lo f → (∀ i, lo ≤ i → i ≤ lo + (k / 2) → f i + ad = toldF st tv ad g i) → SegT 103 W M (k / 2) bl el lo (toldF st tv ad g)) := Lib.hid fun h0 f W hs hf => hs.congr fun i a1 a2 => by rw [← hf i a1 a2, h0, Int.add_zero]
      cases st with
      | true =>
        have HF : Hid (∀ i, lo ≤ i → i ≤ lo + (k / 2) → tv + ad = toldF true tv ad g i) := Lib.hid fun i _ _ => by unfold toldF; rw [if_pos rfl]
        go_wp2_with fail
        go_region_with (go_at_call 69; refine (HSet.out _ (Chg.refl 0 0 _).drew).mono ?_; rintro e1 w2 ⟨rfl, hs2, hc2⟩)
        all_goals
          have HS2 := Lib.hid hs2
          have HT2 := Lib.hid (HT.out.left_ h2 h3 hesz hs2 ((Chg.refl _ _ _).drew.trans hc2))
          clear k2 k3 k4 q0 q1 hs2 hc2
          have k4 := node_4 HT2.out.1
          have q0 := (HT2.out.2.1.cell 0).trans rfl
          have q1 := (HT2.out.2.1.cell 1).trans rfl
          by_cases ha : ad = 0
          · have t1 : (ad != 0) = false := bne_eq_false_iff_eq.2 ha
            have HA := Lib.hid ha
            clear ha
            go_wp2_with fail
            go_roundw
            case rel => exact .inr (.inl ⟨rfl, Lib.hid (HT2.out.left_ h2 h3 hesz (HNo.out HA.out _ _ HS2.out HF.out) (Chg.refl _ _ _))⟩)
            case measure => simp [intOf]
          · have t1 : (ad != 0) = true := bne_iff_ne.2 ha
            go_wp2_with fail
            go_region_with (go_at_call 69; refine (HAdd.out _ _ (HS2.out.same (Chg.refl 0 0 _).drew) HF.out).mono ?_; rintro e1 w3 ⟨rfl, hs3, hc3⟩)
            all_goals
              have HT3 := Lib.hid (HT2.out.left_ h2 h3 hesz hs3 ((Chg.refl _ _ _).drew.trans hc3))
              clear hs3 hc3
              go_wp2_with fail
              go_roundw
              case rel => exact .inr (.inl ⟨rfl, HT3⟩)
              case measure => simp [intOf]
      | false =>
        have HF : Hid (∀ i, lo ≤ i → i ≤ lo + (k / 2) → g i + ad = toldF false tv ad g i) := Lib.hid fun i _ _ => by unfold toldF; rw [if_neg (by decide)]
        by_cases ha : ad = 0
        · have t1 : (ad != 0) = false := bne_eq_false_iff_eq.2 ha
          have HA := Lib.hid ha
          clear ha
          go_wp2_with fail
          go_roundw
          case rel => exact .inr (.inl ⟨rfl, Lib.hid (HT.out.left_ h2 h3 hesz (HNo.out HA.out _ _ HT.out.2.2.1 HF.out) (Chg.refl _ _ _))⟩)
          case measure => simp [intOf]
        · have t1 : (ad != 0) = true := bne_iff_ne.2 ha
          go_wp2_with fail
          go_region_with (go_at_call 69; refine (HAdd.out _ _ (HT.out.2.2.1.same (Chg.refl 0 0 _).drew) HF.out).mono ?_; rintro e1 w3 ⟨rfl, hs3, hc3⟩)
          all_goals
            have HT3 := Lib.hid (HT.out.left_ h2 h3 hesz hs3 ((Chg.refl _ _ _).drew.trans hc3))
            clear hs3 hc3
            go_wp2_with fail
            go_roundw
            case rel => exact .inr (.inl ⟨rfl, HT3⟩)
            case measure => simp [intOf]
    · have k2 := node_2 HT.out.1
      have k4 := node_4 HT.out.1
      have k3 := node_3 HT.out.1
      have q0 := (HT.out.2.1.cell 0).trans rfl
      have q1 := (HT.out.2.1.cell 1).trans rfl
      have HSet : Hid (∀ W, Chg 0 0 wr W → Calls Try.prog 69 #[.pointer (some ⟨br, 0, none⟩), .agg #[.int .i64 2, .int .i64 0, .int .i64 0, .int .i64 tv], .int .i64 z1] W fun e' w' => e' = .returned (.tuple #[]) ∧ SegT 103 w' M (k - k / 2 - 1) br e (lo + k / 2 + 1) (fun _ => tv) ∧ Chg br e W w') := Lib.hid fun W hW => by rw [← HZ.out.2]; exact segSet_any 0 0 tv W (HT.out.2.2.2.1.same hW) h5 hM (by omega)
      have HAdd : Hid (∀ f W, SegT 103 W M (k - k / 2 - 1) br e (lo + k / 2 + 1) f → (∀ i, (lo + k / 2 + 1) ≤ i → i ≤ (lo + k / 2 + 1) + (k - k / 2 - 1) → f i + ad = toldF st tv ad g i) → Calls Try.prog 69 #[.pointer (some ⟨br, 0, none⟩), .agg #[.int .i64 1, .int .i64 0, .int .i64 0, .int .i64 ad], .int .i64 z1] W fun e' w' => e' = .returned (.tuple #[]) ∧ SegT 103 w' M (k - k / 2 - 1) br e (lo + k / 2 + 1) (toldF st tv ad g) ∧ Chg br e W w') := Lib.hid fun f W hs hf => by
        rw [← HZ.out.2]
        refine (segAdd_any 0 0 ad W hs (fun i a1 a2 => by rw [hf i a1 a2]; exact H7.out i (by omega) (by omega)) hM0 hM (by omega)).mono ?_
        rintro e' w' ⟨rfl, h8, h9⟩
        exact ⟨rfl, h8.congr hf, h9⟩
      have HNo : Hid (ad = 0 → ∀ f W, SegT 103 W M (k - k / 2 - 1) br e (lo + k / 2 + 1) f → (∀ i, (lo + k / 2 + 1) ≤ i → i ≤ (lo + k / 2 + 1) + (k - k / 2 - 1) → f i + ad = toldF st tv ad g i) → SegT 103 W M (k - k / 2 - 1) br e (lo + k / 2 + 1) (toldF st tv ad g)) := Lib.hid fun h0 f W hs hf => hs.congr fun i a1 a2 => by rw [← hf i a1 a2, h0, Int.add_zero]
      cases st with
      | true =>
        have HF : Hid (∀ i, (lo + k / 2 + 1) ≤ i → i ≤ (lo + k / 2 + 1) + (k - k / 2 - 1) → tv + ad = toldF true tv ad g i) := Lib.hid fun i _ _ => by unfold toldF; rw [if_pos rfl]
        go_wp2_with fail
        go_region_with (go_at_call 69; refine (HSet.out _ (Chg.refl 0 0 _).drew).mono ?_; rintro e1 w2 ⟨rfl, hs2, hc2⟩)
        all_goals
          have HS2 := Lib.hid hs2
          have HT2 := Lib.hid (HT.out.right_ h2 h3 hesz hs2 ((Chg.refl _ _ _).drew.trans hc2))
          clear k2 k3 k4 q0 q1 hs2 hc2
          have k4 := node_4 HT2.out.1
          have q0 := (HT2.out.2.1.cell 0).trans rfl
          have q1 := (HT2.out.2.1.cell 1).trans rfl
          by_cases ha : ad = 0
          · have t1 : (ad != 0) = false := bne_eq_false_iff_eq.2 ha
            have HA := Lib.hid ha
            clear ha
            go_wp2_with fail
            go_roundw
            case rel => exact .inr (.inr ⟨rfl, Lib.hid (HT2.out.right_ h2 h3 hesz (HNo.out HA.out _ _ HS2.out HF.out) (Chg.refl _ _ _))⟩)
            case measure => simp [intOf]
          · have t1 : (ad != 0) = true := bne_iff_ne.2 ha
            go_wp2_with fail
            go_region_with (go_at_call 69; refine (HAdd.out _ _ (HS2.out.same (Chg.refl 0 0 _).drew) HF.out).mono ?_; rintro e1 w3 ⟨rfl, hs3, hc3⟩)
            all_goals
              have HT3 := Lib.hid (HT2.out.right_ h2 h3 hesz hs3 ((Chg.refl _ _ _).drew.trans hc3))
              clear hs3 hc3
              go_wp2_with fail
              go_roundw
              case rel => exact .inr (.inr ⟨rfl, HT3⟩)
              case measure => simp [intOf]
      | false =>
        have HF : Hid (∀ i, (lo + k / 2 + 1) ≤ i → i ≤ (lo + k / 2 + 1) + (k - k / 2 - 1) → g i + ad = toldF false tv ad g i) := Lib.hid fun i _ _ => by unfold toldF; rw [if_neg (by decide)]
        by_cases ha : ad = 0
        · have t1 : (ad != 0) = false := bne_eq_false_iff_eq.2 ha
          have HA := Lib.hid ha
          clear ha
          go_wp2_with fail
          go_roundw
          case rel => exact .inr (.inr ⟨rfl, Lib.hid (HT.out.right_ h2 h3 hesz (HNo.out HA.out _ _ HT.out.2.2.2.1 HF.out) (Chg.refl _ _ _))⟩)
          case measure => simp [intOf]
        · have t1 : (ad != 0) = true := bne_iff_ne.2 ha
          go_wp2_with fail
          go_region_with (go_at_call 69; refine (HAdd.out _ _ (HT.out.2.2.2.1.same (Chg.refl 0 0 _).drew) HF.out).mono ?_; rintro e1 w3 ⟨rfl, hs3, hc3⟩)
          all_goals
            have HT3 := Lib.hid (HT.out.right_ h2 h3 hesz hs3 ((Chg.refl _ _ _).drew.trans hc3))
            clear hs3 hc3
            go_wp2_with fail
            go_roundw
            case rel => exact .inr (.inr ⟨rfl, HT3⟩)
            case measure => simp [intOf]
    · have f2 := HT.out.1.frozen 2
      have f3 := HT.out.1.frozen 3
      have f4 := HT.out.1.frozen 4
      have k2 := node_2 HT.out.1
      have k3 := node_3 HT.out.1
      have k4 := node_4 HT.out.1
      go_wp2_with fail
      go_end0
      have hc : Chg b (b + 1) wr (((wr.setCell ⟨b, 2, none⟩ (.bool false)).setCell ⟨b, 3, none⟩ (.int .i64 0)).setCell ⟨b, 4, none⟩ (.int .i64 0)) := (((Chg.refl _ _ _).set_ (p := ⟨b, 2, none⟩) (.inl ⟨Nat.le_refl _, Nat.lt_succ_self _⟩) _).set_ (p := ⟨b, 3, none⟩) (.inl ⟨Nat.le_refl _, Nat.lt_succ_self _⟩) _).set_ (p := ⟨b, 4, none⟩) (.inl ⟨Nat.le_refl _, Nat.lt_succ_self _⟩) _
      have hb1 := HT.out.2.2.1.bounds.1
      have hb2 := HT.out.2.2.2.1.bounds.1
      exact ⟨rfl, ((HT.out.1.set_ 2 _).set_ 3 _).set_ 4 _, HT.out.2.2.1.far hc (by omega), (by rw [← hmid]; exact HT.out.2.2.2.1.far hc (by omega)), HT.out.2.2.2.2.trans (hc.mono (Nat.le_refl _) (by omega))⟩
end Go.Proofs.Ytnkflafkalmnmaa
