/-
  Contract of package seg's apply: an operation on a range of a tree. Conditions: the numbers are bounded.
-/
import Derived.Test.YtnkflafkalmnmaaMTopUnits22
namespace Go.Dam
open Go Go.RowKit
/-- What apply answers and leaves. -/
def Applied (T : TypeId) (M : Int) (k b e lo : Nat) (kind olo ohi c : Int) (f : Nat → Int) (w : World) (en : Ending) (w' : World) : Prop :=
  ∃ ls sm any, en = .returned (.tuple #[.int .i64 ls, .int .i64 sm, .bool any]) ∧ AnsR (opF kind olo ohi c f) olo ohi lo k ls sm any ∧ SegT T w' M k b e lo (opF kind olo ohi c f) ∧ Chg b e w w'
theorem ansR_eq {f : Nat → Int} {olo ohi ls sm ls' sm' : Int} {lo k : Nat} {any any' : Bool} (h1 : ls = ls') (h2 : sm = sm') (h3 : any = any') (h : AnsR f olo ohi lo k ls sm any) : AnsR f olo ohi lo k ls' sm' any' := by subst h1 h2 h3; exact h
/-- A node over two parts that were changed. -/
theorem seg_joined {T : TypeId} {M : Int} {k b e lo bl el br mid : Nat} {F : Nat → Int} {w0 w w' : World} {cs0 : Array Value} (hk0 : 0 < k) (hk : k < 300) (hbd : ∀ i, lo ≤ i → i ≤ lo + k → -M ≤ F i ∧ F i ≤ M) (h2 : b < bl) (h3 : el ≤ br) (he : e ≤ w0.heap.size) (hm : lo + k / 2 = mid)
    (hL : SegT T w M (k / 2) bl el lo F) (hR : SegT T w M (k - k / 2 - 1) br e (mid + 1) F) (_hB : Blk w b T cs0) (hC : Chg b e w0 w)
    (hB : Blk w' b T (nodeC (min (leastF F lo (k / 2)) (leastF F (mid + 1) (k - k / 2 - 1))) (sumF F lo (k / 2) + sumF F (mid + 1) (k - k / 2 - 1)) false 0 0 (some ⟨bl, 0, none⟩) (some ⟨br, 0, none⟩))) (hc : Chg b (b + 1) w w') (_hs : w'.heap.size = w.heap.size) (hM0 : 0 ≤ M) : SegT T w' M k b e lo F := by
  have e1 := leastF_split F lo (k / 2) (k - k / 2 - 1)
  have e2 := sumF_split F lo (k / 2) (k - k / 2 - 1)
  rw [show k / 2 + 1 + (k - k / 2 - 1) = k from by omega, hm] at e1 e2
  have b1 := hL.bounds.1
  have b2 := hR.bounds.1
  have hsz := hC.size
  have hsz2 := hc.size
  refine .node (g := F) hk0 (by rw [e1, e2]; exact hB) h2 h3 (by omega) (hL.far hc (by omega)) (by rw [hm]; exact hR.far hc (by omega)) ⟨by omega, hM0⟩ (fun i _ _ => by rw [if_neg (by decide)]; omega) hbd
end Go.Dam
namespace Go.Proofs.Ytnkflafkalmnmaa
open Go Go.RowKit Go.Dam
set_option linter.unusedVariables false
set_option maxRecDepth 100000 in
set_option maxHeartbeats 8000000 in
theorem apply_any {M : Int} (kind olo ohi c : Int) (hkd : 1 ≤ kind ∧ kind ≤ 4) (ho : olo ≤ ohi) (hc : kind = 2 → -M ≤ c ∧ c ≤ M) (hM0 : 0 ≤ M) (hM : M ≤ 1073741824) : ∀ (k : Nat) (b e lo : Nat) (f : Nat → Int) (w : World), k < 300 → lo + k ≤ 1000 → SegT 103 w M k b e lo f →
    (∀ i, lo ≤ i → i ≤ lo + k → -M ≤ opF kind olo ohi c f i ∧ opF kind olo ohi c f i ≤ M) →
    Calls Try.prog 47 #[.pointer (some ⟨b, 0, none⟩), .agg #[.int .i64 kind, .int .i64 olo, .int .i64 ohi, .int .i64 c], .int .i64 (lo : Nat), .int .i64 (lo + k : Nat)] w (Applied 103 M k b e lo kind olo ohi c f w) := by
  intro k
  induction k using Nat.strongRecOn with
  | _ k ih =>
  intro b e lo f w hk hlo hS hbd
  have HO := Lib.hid (Blk.new w 67 #[.int .i64 kind, .int .i64 olo, .int .i64 ohi, .int .i64 c])
  have HC := Lib.hid ((Chg.refl b e w).alloc (.cells #[.int .i64 kind, .int .i64 olo, .int .i64 ohi, .int .i64 c] 67))
  have HS := Lib.hid (hS.same ((Chg.refl 0 0 w).alloc (.cells #[.int .i64 kind, .int .i64 olo, .int .i64 ohi, .int .i64 c] 67)))
  have o0 := (HO.out.cell 0).trans rfl
  have o1 := (HO.out.cell 1).trans rfl
  have o2 := (HO.out.cell 2).trans rfl
  have o3 := (HO.out.cell 3).trans rfl
  have Ho := Lib.hid ho
  obtain ⟨hi, hhi⟩ : ∃ m : Nat, lo + k = m := ⟨_, rfl⟩
  have HHi := Lib.hid hhi
  rw [hhi]
  have hhl : lo ≤ hi ∧ hi ≤ 1300 := by omega
  have HBd := Lib.hid hbd
  clear hbd
  by_cases h1 : ohi < (lo : Int)
  · have t1 : decide (ohi < (lo : Int)) = true := decide_eq_true h1
    have HE : Hid (SegT 103 (w.alloc (.cells #[.int .i64 kind, .int .i64 olo, .int .i64 ohi, .int .i64 c] 67)) M k b e lo (opF kind olo ohi c f)) := Lib.hid (HS.out.congr fun i a1 a2 => (opF_out (by omega)).symm)
    clear hS ih
    go_enter Try.func47, Try.ntmps47
    go_wp2_with fail
    go_ret3
    exact ⟨0, 0, false, rfl, .inl ⟨rfl, rfl, rfl, .inl h1⟩, HE.out, HC.out⟩
  have t1 : decide (ohi < (lo : Int)) = false := decide_eq_false h1
  by_cases h2 : (hi : Int) < olo
  · have t2 : decide ((hi : Int) < olo) = true := decide_eq_true h2
    have HE : Hid (SegT 103 (w.alloc (.cells #[.int .i64 kind, .int .i64 olo, .int .i64 ohi, .int .i64 c] 67)) M k b e lo (opF kind olo ohi c f)) := Lib.hid (HS.out.congr fun i a1 a2 => (opF_out (by omega)).symm)
    clear hS ih
    go_enter Try.func47, Try.ntmps47
    go_wp2_with fail
    go_ret3
    exact ⟨0, 0, false, rfl, .inl ⟨rfl, rfl, rfl, .inr (by rw [HHi.out]; exact h2)⟩, HE.out, HC.out⟩
  have t2 : decide ((hi : Int) < olo) = false := decide_eq_false h2
  by_cases h3 : olo ≤ (lo : Int) ∧ (hi : Int) ≤ ohi
  · have hin : ∀ i, lo ≤ i → i ≤ lo + k → olo ≤ (i : Int) ∧ (i : Int) ≤ ohi := fun i a1 a2 => by omega
    have HIn := Lib.hid hin
    have HA : Hid (AnsR (opF kind olo ohi c f) olo ohi lo k (leastF (opF kind olo ohi c f) lo k) (sumF (opF kind olo ohi c f) lo k) true) := Lib.hid (.inr ⟨rfl, lo, k, by omega, by omega, rfl, rfl⟩)
    have t3 : decide (olo ≤ (lo : Int)) = true := decide_eq_true h3.1
    have t4 : decide ((hi : Int) ≤ ohi) = true := decide_eq_true h3.2
    have hwd : (hi : Int) - (lo : Int) + 1 = (k : Int) + 1 := by omega
    clear hin h3 h1 h2 hS ih
    by_cases hk1 : kind = 1
    · subst hk1
      have HSb : Hid (Calls Try.prog 69 #[.pointer (some ⟨b, 0, none⟩), .agg #[.int .i64 1, .int .i64 olo, .int .i64 ohi, .int .i64 c], .int .i64 ((k : Int) + 1)] (w.alloc (.cells #[.int .i64 1, .int .i64 olo, .int .i64 ohi, .int .i64 c] 67)) fun e' w' => e' = .returned (.tuple #[]) ∧ SegT 103 w' M k b e lo (opF 1 olo ohi c f) ∧ Chg b e (w.alloc (.cells #[.int .i64 1, .int .i64 olo, .int .i64 ohi, .int .i64 c] 67)) w') := Lib.hid (by
        refine (segAdd_any olo ohi c _ HS.out (fun i a1 a2 => by have := HBd.out i a1 a2; rwa [opF_add (HIn.out i a1 a2)] at this) hM0 hM hk).mono ?_
        rintro e' w' ⟨rfl, h8, h9⟩
        exact ⟨rfl, h8.congr fun i a1 a2 => (opF_add (HIn.out i a1 a2)).symm, h9⟩)
      go_enter Try.func47, Try.ntmps47
      go_upto_region 6 with (go_at_call 69; refine (HSb.out).mono ?_; rintro e1 w2 ⟨rfl, hs2, hc2⟩)
      have HS2 := Lib.hid hs2
      have HC2 := Lib.hid (HC.out.trans hc2)
      obtain ⟨st, tv, ad, p0, p1, hB⟩ := hs2.head
      have a0 := node_0 hB
      have a1 := node_1 hB
      generalize leastF (opF 1 olo ohi c f) lo k = LS at *
      generalize sumF (opF 1 olo ohi c f) lo k = SM at *
      clear hs2 hc2 hB
      go_quiet (fail)
      go_wp2_with fail
      go_ret3
      exact ⟨LS, SM, true, rfl, HA.out, HS2.out.same ((Chg.refl 0 0 _).drewN _), HC2.out.drewN _⟩
    by_cases hk2 : kind = 2
    · subst hk2
      have HSb : Hid (Calls Try.prog 69 #[.pointer (some ⟨b, 0, none⟩), .agg #[.int .i64 2, .int .i64 olo, .int .i64 ohi, .int .i64 c], .int .i64 ((k : Int) + 1)] (w.alloc (.cells #[.int .i64 2, .int .i64 olo, .int .i64 ohi, .int .i64 c] 67)) fun e' w' => e' = .returned (.tuple #[]) ∧ SegT 103 w' M k b e lo (opF 2 olo ohi c f) ∧ Chg b e (w.alloc (.cells #[.int .i64 2, .int .i64 olo, .int .i64 ohi, .int .i64 c] 67)) w') := Lib.hid (by
        refine (segSet_any olo ohi c _ HS.out (hc rfl) hM hk).mono ?_
        rintro e' w' ⟨rfl, h8, h9⟩
        exact ⟨rfl, h8.congr fun i a1 a2 => (opF_set (HIn.out i a1 a2)).symm, h9⟩)
      go_enter Try.func47, Try.ntmps47
      go_upto_region 6 with (go_at_call 69; refine (HSb.out).mono ?_; rintro e1 w2 ⟨rfl, hs2, hc2⟩)
      have HS2 := Lib.hid hs2
      have HC2 := Lib.hid (HC.out.trans hc2)
      obtain ⟨st, tv, ad, p0, p1, hB⟩ := hs2.head
      have a0 := node_0 hB
      have a1 := node_1 hB
      generalize leastF (opF 2 olo ohi c f) lo k = LS at *
      generalize sumF (opF 2 olo ohi c f) lo k = SM at *
      clear hs2 hc2 hB
      go_quiet (fail)
      go_wp2_with fail
      go_ret3
      exact ⟨LS, SM, true, rfl, HA.out, HS2.out.same ((Chg.refl 0 0 _).drewN _), HC2.out.drewN _⟩
    · have t5 : (kind == 1) = false := beq_eq_false_iff_ne.2 hk1
      have t6 : (kind == 2) = false := beq_eq_false_iff_ne.2 hk2
      have HS2 := Lib.hid (HS.out.congr (f' := opF kind olo ohi c f) fun i a1 a2 => (opF_ask hk1 hk2).symm)
      obtain ⟨st, tv, ad, p0, p1, hB⟩ := HS2.out.head
      have a0 := node_0 hB
      have a1 := node_1 hB
      generalize leastF (opF kind olo ohi c f) lo k = LS at *
      generalize sumF (opF kind olo ohi c f) lo k = SM at *
      clear hB hk1 hk2 HS
      go_enter Try.func47, Try.ntmps47
      go_upto_region 6 with fail
      go_quiet (fail)
      go_wp2_with fail
      go_ret3
      exact ⟨LS, SM, true, rfl, HA.out, HS2.out.same ((Chg.refl 0 0 _).drewN _), HC.out.drewN _⟩
  have hk0 : 0 < k := by omega
  have h4 : (decide (olo ≤ (lo : Int)) = false) ∨ (decide (olo ≤ (lo : Int)) = true ∧ decide ((hi : Int) ≤ ohi) = false) := by
    by_cases ha : olo ≤ (lo : Int)
    · exact .inr ⟨decide_eq_true ha, decide_eq_false fun hb => h3 ⟨ha, hb⟩⟩
    · exact .inl (decide_eq_false ha)
  have H4 := Lib.hid h4
  clear h4
  obtain ⟨mid, hmid⟩ : ∃ m : Nat, lo + k / 2 = m := ⟨_, rfl⟩
  have hm1 : ((lo : Int) + (hi : Int)) / 2 = (mid : Int) := by omega
  have hm2 : mid ≤ hi ∧ lo ≤ mid := by omega
  have HM := Lib.hid hmid
  -- the node and its parts
  obtain ⟨ls0, sm0, st, tv, ad, bl, el, br, g, hB0, hbl0, hel0, hL0, hR0, htv0, hf0⟩ : ∃ ls sm st tv ad bl el br, ∃ g : Nat → Int, Blk (w.alloc (.cells #[.int .i64 kind, .int .i64 olo, .int .i64 ohi, .int .i64 c] 67)) b 103 (nodeC ls sm st tv ad (some ⟨bl, 0, none⟩) (some ⟨br, 0, none⟩)) ∧ b < bl ∧ el ≤ br ∧ SegT 103 (w.alloc (.cells #[.int .i64 kind, .int .i64 olo, .int .i64 ohi, .int .i64 c] 67)) M (k / 2) bl el lo g ∧ SegT 103 (w.alloc (.cells #[.int .i64 kind, .int .i64 olo, .int .i64 ohi, .int .i64 c] 67)) M (k - k / 2 - 1) br e (lo + k / 2 + 1) g ∧ (-M ≤ tv ∧ tv ≤ M) ∧ ∀ i, lo ≤ i → i ≤ lo + k → f i = toldF st tv ad g i := by
    cases HS.out with
    | leaf => omega
    | node h0 q1 q2 q3 q4 hL hR q5 q6 q7 => exact ⟨_, _, _, _, _, _, _, _, _, q1, q2, q3, hL, hR, q5, q6⟩
  have hfb := HS.out.bounds
  have hbw := hS.bounds
  have HTell : Hid (Calls Try.prog 70 #[.pointer (some ⟨b, 0, none⟩), .int .i64 lo, .int .i64 mid, .int .i64 hi] (w.alloc (.cells #[.int .i64 kind, .int .i64 olo, .int .i64 ohi, .int .i64 c] 67)) fun e' w' => e' = .returned (.tuple #[]) ∧ Blk w' b 103 (nodeC ls0 sm0 false 0 0 (some ⟨bl, 0, none⟩) (some ⟨br, 0, none⟩)) ∧ SegT 103 w' M (k / 2) bl el lo f ∧ SegT 103 w' M (k - k / 2 - 1) br e (mid + 1) f ∧ Chg b e (w.alloc (.cells #[.int .i64 kind, .int .i64 olo, .int .i64 ohi, .int .i64 c] 67)) w') := Lib.hid (by
    have := tell_any (ls := ls0) (sm := sm0) _ hk0 hk (by omega) hB0 hbl0 hel0 hL0 hR0 htv0 (fun i a1 a2 => by rw [← hf0 i a1 a2]; exact hfb.2.2 i a1 a2) hM0 hM
    rw [hmid, hhi] at this
    refine this.mono ?_
    rintro e' w' ⟨rfl, x1, x2, x3, x4⟩
    exact ⟨rfl, x1, x2.congr fun i a1 a2 => (hf0 i a1 (by omega)).symm, x3.congr fun i a1 a2 => (hf0 i (by omega) (by omega)).symm, x4⟩)
  have HL : Hid (∀ W, SegT 103 W M (k / 2) bl el lo f → Calls Try.prog 47 #[.pointer (some ⟨bl, 0, none⟩), .agg #[.int .i64 kind, .int .i64 olo, .int .i64 ohi, .int .i64 c], .int .i64 lo, .int .i64 mid] W (Applied 103 M (k / 2) bl el lo kind olo ohi c f W)) := Lib.hid fun W hW => by
    have := ih (k / 2) (by omega) bl el lo f W (by omega) (by omega) hW (fun i a1 a2 => HBd.out i a1 (by omega))
    rw [hmid] at this
    exact this
  have HR : Hid (∀ W, SegT 103 W M (k - k / 2 - 1) br e (mid + 1) f → Calls Try.prog 47 #[.pointer (some ⟨br, 0, none⟩), .agg #[.int .i64 kind, .int .i64 olo, .int .i64 ohi, .int .i64 c], .int .i64 ((mid : Int) + 1), .int .i64 hi] W (Applied 103 M (k - k / 2 - 1) br e (mid + 1) kind olo ohi c f W)) := Lib.hid fun W hW => by
    have := ih (k - k / 2 - 1) (by omega) br e (mid + 1) f W (by omega) (by omega) hW (fun i a1 a2 => HBd.out i (by omega) (by omega))
    rw [show mid + 1 + (k - k / 2 - 1) = hi from by omega] at this
    exact this
  have hwm : IntKind.i64.wrap ((mid : Int) + 1) = (mid : Int) + 1 := IntWalk.i64_in _ (by omega)
  have hle : el ≤ e := by have := hR0.bounds.1; omega
  have hHf : b ≠ w.heap.size := by have := hbw.1; have := hbw.2.1; omega
  have hew := hbw.2.1
  have hble := hL0.bounds.1
  have hbre := hR0.bounds.1
  clear hB0 hL0 hR0 htv0 hf0 hfb hbw HS hS ih h3 h1 h2
  rcases H4.out with t3 | ⟨t3, t4⟩
  all_goals
    go_enter Try.func47, Try.ntmps47
    go_upto_region 8 with fail
    go_upto_region 9 with (go_at_call 70; refine (HTell.out).mono ?_; rintro e1 w2 ⟨rfl, x1, x2, x3, x4⟩)
    have HB2 := Lib.hid x1
    have HL2 := Lib.hid x2
    have HR2 := Lib.hid x3
    have HC2 := Lib.hid (HC.out.trans x4)
    have HO2 := Lib.hid (HO.out.chg x4 (by omega))
    clear o0 o1 o2 o3 x1 x2 x3 x4
    have o0 := (HO2.out.cell 0).trans rfl
    have o1 := (HO2.out.cell 1).trans rfl
    have o2 := (HO2.out.cell 2).trans rfl
    have o3 := (HO2.out.cell 3).trans rfl
    have k5 := node_5 HB2.out
    have k6 := node_6 HB2.out
    go_region_with (go_at_call 47; refine (HL.out _ (HL2.out.same (Chg.refl 0 0 _).drew)).mono ?_; rintro e1 w3 ⟨l1, s1, any1, rfl, y1, y2, y3⟩)
    all_goals
      have HA1 := Lib.hid y1
      have HL3 := Lib.hid y2
      have hc23 : Chg bl el w2 w3 := (Chg.refl _ _ _).drew.trans y3
      have HR3 := Lib.hid (HR2.out.far hc23 (by omega))
      have HB3 := Lib.hid (HB2.out.chg hc23 (by omega))
      have HO3 := Lib.hid (HO2.out.chg hc23 (by omega))
      have HC3 := Lib.hid (HC2.out.trans (hc23.mono (by omega) (by omega)))
      clear o0 o1 o2 o3 k5 k6 y1 y2 y3 hc23 HB2 HL2 HR2 HO2 HC2
      have o0 := (HO3.out.cell 0).trans rfl
      have o1 := (HO3.out.cell 1).trans rfl
      have o2 := (HO3.out.cell 2).trans rfl
      have o3 := (HO3.out.cell 3).trans rfl
      have k5 := node_5 HB3.out
      have k6 := node_6 HB3.out
      go_wp2_with fail
      go_region_with (go_at_call 47; refine (HR.out _ (HR3.out.same (Chg.refl 0 0 _).drew)).mono ?_; rintro e1 w4 ⟨l2, s2, any2, rfl, y1, y2, y3⟩)
      all_goals
        have HA2 := Lib.hid y1
        have HR4 := Lib.hid y2
        have hc34 : Chg br e w3 w4 := (Chg.refl _ _ _).drew.trans y3
        have HL4 := Lib.hid (HL3.out.far hc34 (by omega))
        have HB4 := Lib.hid (HB3.out.chg hc34 (by omega))
        have HC4 := Lib.hid (HC3.out.trans (hc34.mono (by omega) (Nat.le_refl _)))
        have hb1 := HA1.out.bound hM0 (fun i a1 a2 => HBd.out i a1 (by omega))
        have hb2 := HA2.out.bound hM0 (fun i a1 a2 => HBd.out i (by omega) (by omega))
        have hm1' := mul_bd (c := M) (M := M) (k := k / 2) ⟨by omega, Int.le_refl _⟩ hM (by omega)
        have hm2' := mul_bd (c := M) (M := M) (k := k - k / 2 - 1) ⟨by omega, Int.le_refl _⟩ hM (by omega)
        have bs1 : -1099511627776 ≤ s1 ∧ s1 ≤ 1099511627776 := by omega
        have bs2 : -1099511627776 ≤ s2 ∧ s2 ≤ 1099511627776 := by omega
        have HJ := Lib.hid (AnsR.join (b := k - k / 2 - 1) Ho.out HA1.out (by rw [HM.out]; exact HA2.out))
        obtain ⟨t1, v1, ad1, p0, p1, hB1⟩ := HL4.out.head
        obtain ⟨t2', v2, ad2, p2, p3, hB2⟩ := HR4.out.head
        have hsb1 := sum_bd (f := opF kind olo ohi c f) (lo := lo) (k := k / 2) (fun i a1 a2 => HBd.out i a1 (by omega)) hM0 hM (by omega)
        have hsb2 := sum_bd (f := opF kind olo ohi c f) (lo := mid + 1) (k := k - k / 2 - 1) (fun i a1 a2 => HBd.out i (by omega) (by omega)) hM0 hM (by omega)
        have HG := Lib.hid (gather_any b bl br _ _ _ _ _ _ _ _ _ _ _ _ _ _ _ _ _ _ _ w4 HB4.out hB1 hB2 (by omega) (by omega) hsb1 hsb2)
        clear k5 k6 y1 y2 y3 hc34 HB3 HL3 HR3 HO3 HC3 o0 o1 o2 o3 hb1 hb2 hm1' hm2' hB1 hB2 hsb1 hsb2
        go_wp2_with (go_at_call 68; refine (HG.out).mono ?_; rintro e1 w5 ⟨rfl, z1, z2, z3⟩; have HS5 := Lib.hid (seg_joined hk0 hk HBd.out hbl0 hel0 hew HM.out HL4.out HR4.out HB4.out HC4.out z1 z2 z3 hM0); have HC5 := Lib.hid (HC4.out.trans (z2.mono (Nat.le_refl _) (by omega))); clear z1 z2 z3; have HJ2 : Hid (AnsR (opF kind olo ohi c f) olo ohi lo k (if any1 then (if any2 then min l1 l2 else l1) else l2) (if any1 then (if any2 then s1 + s2 else s1) else s2) (any1 || any2)) := Lib.hid (by have := HJ.out; rwa [show k / 2 + 1 + (k - k / 2 - 1) = k from by omega] at this); cases any1 <;> cases any2)
        all_goals go_ret3
        all_goals refine ⟨_, _, _, rfl, ?_, HS5.out, HC5.out⟩
        all_goals have h9 := HJ2.out
        all_goals simp only [if_true, if_false, Bool.or_true, Bool.true_or, Bool.or_false, Bool.or_self, Bool.false_eq_true] at h9
        all_goals exact ansR_eq (by omega) (by omega) rfl h9
end Go.Proofs.Ytnkflafkalmnmaa
