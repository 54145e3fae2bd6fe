/-
  Contract of the reference's exprText: the text of an expression. Conditions: the expression can be read, is fine, and is not larger than the memory.
-/
import Derived.Test.YtlojecajonhmhaaGreatDoorMQueryEvals45
import Derived.Test.YtlojecajonhmhaaGreatDoorMQueryEvals04
import Derived.BigQuiet
set_option linter.unusedVariables false
set_option linter.unusedSimpArgs false
namespace Go.Dam.Q
open Go Go.RowKit Go.Dam
set_option linter.unusedVariables false
theorem join_grow (sep s : List UInt8) (l : List (List UInt8)) : (joinT sep l).length ≤ (joinT sep (l ++ [s])).length := by
  by_cases h : l = []
  · subst h; with_unfolding_all exact Nat.zero_le _
  · rw [joinT_snoc _ _ h]; simp only [List.length_append]; omega
theorem join_upto {f : Nat} {k : Int} {ps : List Ex} (sep : List UInt8) {i : Nat} : ∀ {n : Nat}, i ≤ n → n ≤ ps.length → (joinT sep (partsT f k ps i)).length ≤ (joinT sep (partsT f k ps n)).length
  | 0, h, _ => by rw [show i = 0 by omega]; exact Nat.le_refl _
  | n + 1, h, hn => by
    rcases Nat.eq_or_lt_of_le h with rfl | h
    · exact Nat.le_refl _
    · have h1 := join_upto (f := f) (k := k) (ps := ps) sep (i := i) (n := n) (by omega) (by omega)
      rw [partsT_s (by omega)]
      exact Nat.le_trans h1 (join_grow _ _ _)
theorem join_first (sep s : List UInt8) {l : List (List UInt8)} (h : l = []) : joinT sep (l ++ [s]) = s := by subst h; with_unfolding_all rfl
theorem join_next (sep s : List UInt8) {l : List (List UInt8)} (h : l ≠ []) : joinT sep (l ++ [s]) = joinT sep l ++ (sep ++ s) := by rw [joinT_snoc _ _ h, List.append_assoc]
end Go.Dam.Q
namespace Go.Proofs.YtlojecajonhmhaaGreatDoor
open Go Go.RowKit Go.Dam Go.Dam.Q
set_option linter.unusedVariables false
set_option maxRecDepth 100000 in
set_option maxHeartbeats 8000000 in
theorem refText_k1 (x0 y0 x1 y1 ww : Int) (A : Option Addr) (n c : Nat) (w : World) (hb0 : -1048576 ≤ x0 ∧ x0 ≤ 1048576) (hb1 : -1048576 ≤ y0 ∧ y0 ≤ 1048576) (hb2 : -1048576 ≤ x1 ∧ x1 ≤ 1048576) (hb3 : -1048576 ≤ y1 ∧ y1 ≤ 1048576) (T : List UInt8) (hT : T = [105, 110] ++ 32 :: Lib.itoa x0 ++ 32 :: Lib.itoa y0 ++ 32 :: Lib.itoa x1 ++ 32 :: Lib.itoa y1) :
    Calls Tryz.prog 20 #[exV 1 x0 y0 x1 y1 ww A n c] w fun e w' => e = .returned (.string ⟨T.toArray⟩) ∧ Below w.heap.size w w' := by
  have H0 := Lib.hid (numText_any hb0)
  have H1 := Lib.hid (numText_any hb1)
  have H2 := Lib.hid (numText_any hb2)
  have H3 := Lib.hid (numText_any hb3)
  have l0 := itoa_len hb0.1 hb0.2
  have l1 := itoa_len hb1.1 hb1.2
  have l2 := itoa_len hb2.1 hb2.2
  have l3 := itoa_len hb3.1 hb3.2
  generalize Lib.itoa x0 = N0 at *
  generalize Lib.itoa y0 = N1 at *
  generalize Lib.itoa x1 = N2 at *
  generalize Lib.itoa y1 = N3 at *
  obtain ⟨P1, hP1⟩ : ∃ P, P = [105, 110, 32] ++ N0 := ⟨_, rfl⟩
  have a1 := fun W => add_str (P := Tryz.prog) [105, 110, 32] N0 (c := P1) hP1 (by simp; omega) W
  obtain ⟨P2, hP2⟩ : ∃ P, P = P1 ++ [32] := ⟨_, rfl⟩
  have a2 := fun W => add_str (P := Tryz.prog) P1 [32] (c := P2) hP2 (by rw [hP1]; simp; omega) W
  obtain ⟨P3, hP3⟩ : ∃ P, P = P2 ++ N1 := ⟨_, rfl⟩
  have a3 := fun W => add_str (P := Tryz.prog) P2 N1 (c := P3) hP3 (by rw [hP2, hP1]; simp; omega) W
  obtain ⟨P4, hP4⟩ : ∃ P, P = P3 ++ [32] := ⟨_, rfl⟩
  have a4 := fun W => add_str (P := Tryz.prog) P3 [32] (c := P4) hP4 (by rw [hP3, hP2, hP1]; simp; omega) W
  obtain ⟨P5, hP5⟩ : ∃ P, P = P4 ++ N2 := ⟨_, rfl⟩
  have a5 := fun W => add_str (P := Tryz.prog) P4 N2 (c := P5) hP5 (by rw [hP4, hP3, hP2, hP1]; simp; omega) W
  obtain ⟨P6, hP6⟩ : ∃ P, P = P5 ++ [32] := ⟨_, rfl⟩
  have a6 := fun W => add_str (P := Tryz.prog) P5 [32] (c := P6) hP6 (by rw [hP5, hP4, hP3, hP2, hP1]; simp; omega) W
  have a7 := fun W => add_str (P := Tryz.prog) P6 N3 (c := T) (by rw [hT, hP6, hP5, hP4, hP3, hP2, hP1]; simp) (by rw [hP6, hP5, hP4, hP3, hP2, hP1]; simp; omega) W
  clear hP1 hP2 hP3 hP4 hP5 hP6 hT l0 l1 l2 l3 hb0 hb1 hb2 hb3
  have HB0 := Lib.hid fun o => (Below.refl w.heap.size w).alloc (Nat.le_refl _) o
  unfold exV
  go_enter Tryz.func20, Tryz.ntmps20
  go_wp2_with fail
  go_quiet ((first | (go_at_call 31; with_reducible exact quiet_of_same (H0.out _)) | (go_at_call 31; with_reducible exact quiet_of_same (H1.out _)) | (go_at_call 31; with_reducible exact quiet_of_same (H2.out _)) | (go_at_call 31; with_reducible exact quiet_of_same (H3.out _))))
  go_wp2_with fail
  go_ret
  exact ⟨rfl, below_drewN (HB0.out _) _⟩
set_option maxRecDepth 100000 in
set_option maxHeartbeats 8000000 in
theorem refText_k2 (x0 y0 x1 y1 ww : Int) (A : Option Addr) (n c : Nat) (w : World) (hb4 : -1048576 ≤ ww ∧ ww ≤ 1048576) (T : List UInt8) (hT : T = 119 :: 32 :: Lib.itoa ww) :
    Calls Tryz.prog 20 #[exV 2 x0 y0 x1 y1 ww A n c] w fun e w' => e = .returned (.string ⟨T.toArray⟩) ∧ Below w.heap.size w w' := by
  have H0 := Lib.hid (numText_any hb4)
  have l0 := itoa_len hb4.1 hb4.2
  generalize Lib.itoa ww = N0 at *
  have a1 := fun W => add_str (P := Tryz.prog) [119, 32] N0 (c := T) (by rw [hT]; rfl) (by simp; omega) W
  clear hT l0 hb4
  have HB0 := Lib.hid fun o => (Below.refl w.heap.size w).alloc (Nat.le_refl _) o
  unfold exV
  go_enter Tryz.func20, Tryz.ntmps20
  go_wp2_with (go_at_call 31; refine (H0.out _).mono ?_; rintro e w2 ⟨rfl, rfl⟩)
  go_ret
  exact ⟨rfl, HB0.out _⟩
set_option maxRecDepth 100000 in
set_option maxHeartbeats 16000000 in
theorem refText_k3 (f : Nat) (ps : List Ex) (x0 y0 x1 y1 ww : Int) (w : World) (B : Nat) (A : Option Addr) (n c sz : Nat) (hB : B ≤ w.heap.size) (HNl : Hid (n = ps.length)) (hn2 : 2 ≤ n) (hsz : 48 * sz ≤ 140737488355328) (hmany : n ≤ sz) (hnc : n ≤ c) (hc : c ≤ 9223372036854775807)
    (IH : Hid (∀ (x : Ex) (v : Value) (W : World) (B : Nat), B ≤ W.heap.size → IsEx W B f v x → faultN f x = 0 → 48 * sizeN f x ≤ 140737488355328 → Calls Tryz.prog 20 #[v] W fun e w' => e = .returned (.string ⟨(textN f x).toArray⟩) ∧ Below W.heap.size W w'))
    (HP : Hid (0 < n → ∃ b o, A = some ⟨b, o, none⟩ ∧ b < B ∧ ∀ i, i < n → ∃ v', ExAt w b (o + i * 7) v' ∧ IsEx w B f v' (ps.getD i noEx)))
    (HPf : Hid (∀ i, i < n → faultN f (ps.getD i noEx) = 0)) (HPs : Hid (∀ i, i < n → sizeN f (ps.getD i noEx) ≤ sz)) (T : List UInt8) (HTx : Hid (T = joinT (sepOf 3) (partsT f 3 ps n))) (HTl : Hid (T.length + 5 ≤ 48 * sz)) :
    Calls Tryz.prog 20 #[exV 3 x0 y0 x1 y1 ww A n c] w fun e w' => e = .returned (.string ⟨T.toArray⟩) ∧ Below w.heap.size w w' := by
  have HPt := Lib.hid fun i (hi : i < n) => partsT_s (f := f) (k := 3) (ps := ps) (i := i) (by rw [← HNl.out]; exact hi)
  unfold exV
  have HB0 := Lib.hid ((Below.refl w.heap.size w).alloc (Nat.le_refl _) (.cells #[.int .i64 3, .int .i64 x0, .int .i64 y0, .int .i64 x1, .int .i64 y1, .int .i64 ww, .slice A n c] 26))
  have HK := Lib.hid (Blk.new w 26 #[.int .i64 3, .int .i64 x0, .int .i64 y0, .int .i64 x1, .int .i64 y1, .int .i64 ww, .slice A n c])
  have k6 := (HK.out.cell 6).trans rfl
  have k0 := (HK.out.cell 0).trans rfl
  go_enter Tryz.func20, Tryz.ntmps20
  go_wp2_with fail
  generalize w.alloc (.cells #[.int .i64 3, .int .i64 x0, .int .i64 y0, .int .i64 x1, .int .i64 y1, .int .i64 ww, .slice A n c] 26) = W0 at *
  have hz0 := HB0.out.size
  have hkl := HK.out.lt
  have HKw := Lib.hid fun W (hb : Below W0.heap.size W0 W) => (HK.out.below hb hkl)
  clear k0 k6
  go_loopw [3, 43] (fun ov iv wr => ∃ (i : Nat) (O : List UInt8), i ≤ n ∧ iv = .int .i64 i ∧ ov = .string ⟨O.toArray⟩ ∧ Hid (O = joinT (sepOf 3) (partsT f 3 ps i)) ∧ Hid (Below W0.heap.size W0 wr)) (fun _ iv _ => n - (intOf iv).toNat)
  case atStart => exact ⟨0, [], by omega, rfl, rfl, Lib.hid (by rw [partsT_0]; with_unfolding_all rfl), Lib.hid (Below.refl _ _)⟩
  case round =>
    obtain ⟨wo, rfl⟩ : ∃ wo : World, wo = wr := ⟨_, rfl⟩
    obtain ⟨i, O, hi, rfl, rfl, HO, HB⟩ := hrel
    have hzo := HB.out.size
    by_cases hlt : i < n
    · have t1 : decide ((i : Int) < (n : Int)) = true := decide_eq_true (by omega)
      obtain ⟨b, o, rfl, hb, hpa⟩ := HP.out (by omega)
      obtain ⟨v', hat, hex⟩ := hpa i hlt
      obtain ⟨pk, px0, py0, px1, py1, pw, PA, pn, pc, rfl, c0, c1, c2, c3, c4, c5, c6⟩ := (hat.below ((HB0.out.mono hB).trans (HB.out.mono (by omega))) hb)
      have HPti := Lib.hid (HPt.out i hlt)
      have hpf := HPf.out i hlt
      have hps := HPs.out i hlt
      have hkd := hex.kind
      have htl := text_len _ _ hpf
      have HBw : Hid (Below w.heap.size w wo) := Lib.hid (HB0.out.trans (HB.out.mono hz0))
      have HQ := Lib.hid fun W (hbw : Below wo.heap.size wo W) => IH.out (ps.getD i noEx) _ W B (by have := hbw.size; have := HBw.out.size; omega) (hex.below (((HBw.out.trans (hbw.mono HBw.out.size)).mono hB))) hpf (by omega)
      obtain ⟨TT, hTT⟩ : ∃ t, t = textN f (ps.getD i noEx) := ⟨_, rfl⟩
      rw [← hTT] at HQ htl HPti
      have hR : partT 3 (ps.getD i noEx) TT = wrapT (wrapped 3 pk) TT := by unfold partT; rw [hkd]
      rw [hR] at HPti
      have hOl : O.length ≤ T.length := by rw [HO.out, HTx.out]; exact join_upto _ (by omega) (by rw [HNl.out]; exact Nat.le_refl _)
      have htl2 : TT.length + 5 ≤ 140737488355328 := by omega
      have hT2 := HTl.out
      unfold exV at HQ
      have i1 : (i : Int) < (n : Int) := by omega
      have w1 : IntKind.i64.wrap ((i : Int) + 1) = (i : Int) + 1 := by rw [IntKind.wrap_i64]; omega
      have HBa := Lib.hid fun o => (Below.refl wo.heap.size wo).alloc (Nat.le_refl _) o
      have s0 := fun o => ((HKw.out _ (HB.out.trans ((HBa.out o).mono hzo))).cell 0).trans rfl
      have HKc := Lib.hid fun W (hb : Below wo.heap.size wo W) => ((HKw.out W (HB.out.trans (hb.mono hzo))).cell 0).trans rfl
      obtain ⟨Q, hQ⟩ : ∃ Q, Q = 40 :: TT := ⟨_, rfl⟩
      have a1 := fun W => add_str (P := Tryz.prog) [40] TT (c := Q) (by rw [hQ]; rfl) (by simp; omega) W
      obtain ⟨Q2, hQ2⟩ : ∃ Q2, Q2 = 40 :: (TT ++ [41]) := ⟨_, rfl⟩
      have a2 := fun W => add_str (P := Tryz.prog) Q [41] (c := Q2) (by rw [hQ2, hQ]; rfl) (by rw [hQ]; simp; omega) W
      have hQl : Q2.length ≤ 140737488355328 := by rw [hQ2]; simp; omega
      have HQ2 := Lib.hid hQ2
      have HTl2 := Lib.hid htl2
      have HQl := Lib.hid hQl
      have HOl := Lib.hid hOl
      clear hpa hat hex hkd htl hTT hR hpf hps hQ hQ2
      rcases Nat.eq_zero_or_pos i with hi0 | hi0
      · subst hi0
        obtain rfl : O = [] := by rw [HO.out, partsT_0]; with_unfolding_all rfl
        rw [Nat.zero_mul, Nat.add_zero] at c0 c1 c2 c3 c4 c5 c6
        by_cases h4 : pk = 4
        · subst h4
          have HWR : Hid (wrapT (wrapped 3 4) TT = Q2) := Lib.hid HQ2.out.symm
          have a4 := fun W => add_str (P := Tryz.prog) [] Q2 (c := Q2) rfl (by simp; have := HTl2.out; have := HQl.out; omega) W
          go_wp2_with (go_at_call 20; refine (HQ.out _ (HBa.out _)).mono ?_; rintro e w2 ⟨rfl, hb2⟩; have HB2 := Lib.hid ((HBa.out _).trans (hb2.mono (by simp))); have r0 := ((Blk.below (Blk.new wo 26 #[.int .i64 4, .int .i64 px0, .int .i64 py0, .int .i64 px1, .int .i64 py1, .int .i64 pw, .slice PA pn pc]) hb2 (by simp)).cell 0).trans rfl; have s1 := HKc.out _ HB2.out; clear hb2)
          go_roundw
          case rel => exact ⟨1, Q2, by omega, by go_num, rfl, Lib.hid (by rw [HPti.out, HWR.out, join_first _ _ (partsT_0 f 3 ps)]), Lib.hid (HB.out.trans (HB2.out.mono hzo))⟩
          case measure => simp [intOf]; omega
        · have e4 : (pk == 4) = false := beq_eq_false_iff_ne.2 h4
          by_cases h3 : pk = 3
          · subst h3
            have HWR : Hid (wrapT (wrapped 3 3) TT = Q2) := Lib.hid HQ2.out.symm
            have a4 := fun W => add_str (P := Tryz.prog) [] Q2 (c := Q2) rfl (by simp; have := HTl2.out; have := HQl.out; omega) W
            go_wp2_with (go_at_call 20; refine (HQ.out _ (HBa.out _)).mono ?_; rintro e w2 ⟨rfl, hb2⟩; have HB2 := Lib.hid ((HBa.out _).trans (hb2.mono (by simp))); have r0 := ((Blk.below (Blk.new wo 26 #[.int .i64 3, .int .i64 px0, .int .i64 py0, .int .i64 px1, .int .i64 py1, .int .i64 pw, .slice PA pn pc]) hb2 (by simp)).cell 0).trans rfl; have s1 := HKc.out _ HB2.out; clear hb2)
            go_roundw
            case rel => exact ⟨1, Q2, by omega, by go_num, rfl, Lib.hid (by rw [HPti.out, HWR.out, join_first _ _ (partsT_0 f 3 ps)]), Lib.hid (HB.out.trans (HB2.out.mono hzo))⟩
            case measure => simp [intOf]; omega
          · have e3 : (pk == 3) = false := beq_eq_false_iff_ne.2 h3
            have HWR : Hid (wrapT (wrapped 3 pk) TT = TT) := Lib.hid (by unfold wrapped; rw [e4, e3]; rfl)
            have a4 := fun W => add_str (P := Tryz.prog) [] TT (c := TT) rfl (by simp; have := HTl2.out; have := HQl.out; omega) W
            go_wp2_with (go_at_call 20; refine (HQ.out _ (HBa.out _)).mono ?_; rintro e w2 ⟨rfl, hb2⟩; have HB2 := Lib.hid ((HBa.out _).trans (hb2.mono (by simp))); have r0 := ((Blk.below (Blk.new wo 26 #[.int .i64 pk, .int .i64 px0, .int .i64 py0, .int .i64 px1, .int .i64 py1, .int .i64 pw, .slice PA pn pc]) hb2 (by simp)).cell 0).trans rfl; have s1 := HKc.out _ HB2.out; clear hb2)
            go_roundw
            case rel => exact ⟨1, TT, by omega, by go_num, rfl, Lib.hid (by rw [HPti.out, HWR.out, join_first _ _ (partsT_0 f 3 ps)]), Lib.hid (HB.out.trans (HB2.out.mono hzo))⟩
            case measure => simp [intOf]; omega
      · have d0 : decide ((0 : Int) < (i : Int)) = true := decide_eq_true (by omega)
        have HNe : Hid (partsT f 3 ps i ≠ []) := Lib.hid (by
          have hl : (partsT f 3 ps i).length = i := by with_unfolding_all (show ((ps.take i).map _).length = i); rw [List.length_map, List.length_take]; have := HNl.out; omega
          intro e; rw [e] at hl; simp at hl; omega)
        by_cases h4 : pk = 4
        · subst h4
          have HWR : Hid (wrapT (wrapped 3 4) TT = Q2) := Lib.hid HQ2.out.symm
          obtain ⟨S, hS⟩ : ∃ S, S = [32, 38, 32] ++ Q2 := ⟨_, rfl⟩
          have a3 := fun W => add_str (P := Tryz.prog) [32, 38, 32] Q2 (c := S) hS (by simp; have := HTl2.out; have := HQl.out; omega) W
          obtain ⟨O2, hO2⟩ : ∃ O2, O2 = O ++ S := ⟨_, rfl⟩
          have a4 := fun W => add_str (P := Tryz.prog) O S (c := O2) hO2 (by rw [hS]; simp; have := HTl2.out; have := HQl.out; have := HOl.out; omega) W
          have HST : Hid (O2 = O ++ ([32, 38, 32] ++ Q2)) := Lib.hid (by rw [hO2, hS])
          clear hS hO2
          go_wp2_with (go_at_call 20; refine (HQ.out _ (HBa.out _)).mono ?_; rintro e w2 ⟨rfl, hb2⟩; have HB2 := Lib.hid ((HBa.out _).trans (hb2.mono (by simp))); have r0 := ((Blk.below (Blk.new wo 26 #[.int .i64 4, .int .i64 px0, .int .i64 py0, .int .i64 px1, .int .i64 py1, .int .i64 pw, .slice PA pn pc]) hb2 (by simp)).cell 0).trans rfl; have s1 := HKc.out _ HB2.out; clear hb2)
          go_roundw
          case rel => exact ⟨i + 1, O2, by omega, by go_num, rfl, Lib.hid (by rw [HPti.out, HWR.out, join_next _ _ HNe.out, HST.out, HO.out]; rfl), Lib.hid (HB.out.trans (HB2.out.mono hzo))⟩
          case measure => simp [intOf]; omega
        · have e4 : (pk == 4) = false := beq_eq_false_iff_ne.2 h4
          by_cases h3 : pk = 3
          · subst h3
            have HWR : Hid (wrapT (wrapped 3 3) TT = Q2) := Lib.hid HQ2.out.symm
            obtain ⟨S, hS⟩ : ∃ S, S = [32, 38, 32] ++ Q2 := ⟨_, rfl⟩
            have a3 := fun W => add_str (P := Tryz.prog) [32, 38, 32] Q2 (c := S) hS (by simp; have := HTl2.out; have := HQl.out; omega) W
            obtain ⟨O2, hO2⟩ : ∃ O2, O2 = O ++ S := ⟨_, rfl⟩
            have a4 := fun W => add_str (P := Tryz.prog) O S (c := O2) hO2 (by rw [hS]; simp; have := HTl2.out; have := HQl.out; have := HOl.out; omega) W
            have HST : Hid (O2 = O ++ ([32, 38, 32] ++ Q2)) := Lib.hid (by rw [hO2, hS])
            clear hS hO2
            go_wp2_with (go_at_call 20; refine (HQ.out _ (HBa.out _)).mono ?_; rintro e w2 ⟨rfl, hb2⟩; have HB2 := Lib.hid ((HBa.out _).trans (hb2.mono (by simp))); have r0 := ((Blk.below (Blk.new wo 26 #[.int .i64 3, .int .i64 px0, .int .i64 py0, .int .i64 px1, .int .i64 py1, .int .i64 pw, .slice PA pn pc]) hb2 (by simp)).cell 0).trans rfl; have s1 := HKc.out _ HB2.out; clear hb2)
            go_roundw
            case rel => exact ⟨i + 1, O2, by omega, by go_num, rfl, Lib.hid (by rw [HPti.out, HWR.out, join_next _ _ HNe.out, HST.out, HO.out]; rfl), Lib.hid (HB.out.trans (HB2.out.mono hzo))⟩
            case measure => simp [intOf]; omega
          · have e3 : (pk == 3) = false := beq_eq_false_iff_ne.2 h3
            have HWR : Hid (wrapT (wrapped 3 pk) TT = TT) := Lib.hid (by unfold wrapped; rw [e4, e3]; rfl)
            obtain ⟨S, hS⟩ : ∃ S, S = [32, 38, 32] ++ TT := ⟨_, rfl⟩
            have a3 := fun W => add_str (P := Tryz.prog) [32, 38, 32] TT (c := S) hS (by simp; have := HTl2.out; have := HQl.out; omega) W
            obtain ⟨O2, hO2⟩ : ∃ O2, O2 = O ++ S := ⟨_, rfl⟩
            have a4 := fun W => add_str (P := Tryz.prog) O S (c := O2) hO2 (by rw [hS]; simp; have := HTl2.out; have := HQl.out; have := HOl.out; omega) W
            have HST : Hid (O2 = O ++ ([32, 38, 32] ++ TT)) := Lib.hid (by rw [hO2, hS])
            clear hS hO2
            go_wp2_with (go_at_call 20; refine (HQ.out _ (HBa.out _)).mono ?_; rintro e w2 ⟨rfl, hb2⟩; have HB2 := Lib.hid ((HBa.out _).trans (hb2.mono (by simp))); have r0 := ((Blk.below (Blk.new wo 26 #[.int .i64 pk, .int .i64 px0, .int .i64 py0, .int .i64 px1, .int .i64 py1, .int .i64 pw, .slice PA pn pc]) hb2 (by simp)).cell 0).trans rfl; have s1 := HKc.out _ HB2.out; clear hb2)
            go_roundw
            case rel => exact ⟨i + 1, O2, by omega, by go_num, rfl, Lib.hid (by rw [HPti.out, HWR.out, join_next _ _ HNe.out, HST.out, HO.out]; rfl), Lib.hid (HB.out.trans (HB2.out.mono hzo))⟩
            case measure => simp [intOf]; omega
    · obtain rfl : i = n := by omega
      have t1 : decide ((i : Int) < (i : Int)) = false := decide_eq_false (by omega)
      have HE : Hid (O = T) := Lib.hid (by rw [HO.out, HTx.out])
      clear HO
      go_wp2_with fail
      go_ret
      exact ⟨by rw [← HE.out]; rfl, HB0.out.trans (HB.out.mono hz0)⟩
set_option maxRecDepth 100000 in
set_option maxHeartbeats 16000000 in
theorem refText_k4 (f : Nat) (ps : List Ex) (x0 y0 x1 y1 ww : Int) (w : World) (B : Nat) (A : Option Addr) (n c sz : Nat) (hB : B ≤ w.heap.size) (HNl : Hid (n = ps.length)) (hn2 : 2 ≤ n) (hsz : 48 * sz ≤ 140737488355328) (hmany : n ≤ sz) (hnc : n ≤ c) (hc : c ≤ 9223372036854775807)
    (IH : Hid (∀ (x : Ex) (v : Value) (W : World) (B : Nat), B ≤ W.heap.size → IsEx W B f v x → faultN f x = 0 → 48 * sizeN f x ≤ 140737488355328 → Calls Tryz.prog 20 #[v] W fun e w' => e = .returned (.string ⟨(textN f x).toArray⟩) ∧ Below W.heap.size W w'))
    (HP : Hid (0 < n → ∃ b o, A = some ⟨b, o, none⟩ ∧ b < B ∧ ∀ i, i < n → ∃ v', ExAt w b (o + i * 7) v' ∧ IsEx w B f v' (ps.getD i noEx)))
    (HPf : Hid (∀ i, i < n → faultN f (ps.getD i noEx) = 0)) (HPs : Hid (∀ i, i < n → sizeN f (ps.getD i noEx) ≤ sz)) (T : List UInt8) (HTx : Hid (T = joinT (sepOf 4) (partsT f 4 ps n))) (HTl : Hid (T.length + 5 ≤ 48 * sz)) :
    Calls Tryz.prog 20 #[exV 4 x0 y0 x1 y1 ww A n c] w fun e w' => e = .returned (.string ⟨T.toArray⟩) ∧ Below w.heap.size w w' := by
  have HPt := Lib.hid fun i (hi : i < n) => partsT_s (f := f) (k := 4) (ps := ps) (i := i) (by rw [← HNl.out]; exact hi)
  unfold exV
  have HB0 := Lib.hid ((Below.refl w.heap.size w).alloc (Nat.le_refl _) (.cells #[.int .i64 4, .int .i64 x0, .int .i64 y0, .int .i64 x1, .int .i64 y1, .int .i64 ww, .slice A n c] 26))
  have HK := Lib.hid (Blk.new w 26 #[.int .i64 4, .int .i64 x0, .int .i64 y0, .int .i64 x1, .int .i64 y1, .int .i64 ww, .slice A n c])
  have k6 := (HK.out.cell 6).trans rfl
  have k0 := (HK.out.cell 0).trans rfl
  go_enter Tryz.func20, Tryz.ntmps20
  go_wp2_with fail
  generalize w.alloc (.cells #[.int .i64 4, .int .i64 x0, .int .i64 y0, .int .i64 x1, .int .i64 y1, .int .i64 ww, .slice A n c] 26) = W0 at *
  have hz0 := HB0.out.size
  have hkl := HK.out.lt
  have HKw := Lib.hid fun W (hb : Below W0.heap.size W0 W) => (HK.out.below hb hkl)
  clear k0 k6
  go_loopw [3, 43] (fun ov iv wr => ∃ (i : Nat) (O : List UInt8), i ≤ n ∧ iv = .int .i64 i ∧ ov = .string ⟨O.toArray⟩ ∧ Hid (O = joinT (sepOf 4) (partsT f 4 ps i)) ∧ Hid (Below W0.heap.size W0 wr)) (fun _ iv _ => n - (intOf iv).toNat)
  case atStart => exact ⟨0, [], by omega, rfl, rfl, Lib.hid (by rw [partsT_0]; with_unfolding_all rfl), Lib.hid (Below.refl _ _)⟩
  case round =>
    obtain ⟨wo, rfl⟩ : ∃ wo : World, wo = wr := ⟨_, rfl⟩
    obtain ⟨i, O, hi, rfl, rfl, HO, HB⟩ := hrel
    have hzo := HB.out.size
    by_cases hlt : i < n
    · have t1 : decide ((i : Int) < (n : Int)) = true := decide_eq_true (by omega)
      obtain ⟨b, o, rfl, hb, hpa⟩ := HP.out (by omega)
      obtain ⟨v', hat, hex⟩ := hpa i hlt
      obtain ⟨pk, px0, py0, px1, py1, pw, PA, pn, pc, rfl, c0, c1, c2, c3, c4, c5, c6⟩ := (hat.below ((HB0.out.mono hB).trans (HB.out.mono (by omega))) hb)
      have HPti := Lib.hid (HPt.out i hlt)
      have hpf := HPf.out i hlt
      have hps := HPs.out i hlt
      have hkd := hex.kind
      have htl := text_len _ _ hpf
      have HBw : Hid (Below w.heap.size w wo) := Lib.hid (HB0.out.trans (HB.out.mono hz0))
      have HQ := Lib.hid fun W (hbw : Below wo.heap.size wo W) => IH.out (ps.getD i noEx) _ W B (by have := hbw.size; have := HBw.out.size; omega) (hex.below (((HBw.out.trans (hbw.mono HBw.out.size)).mono hB))) hpf (by omega)
      obtain ⟨TT, hTT⟩ : ∃ t, t = textN f (ps.getD i noEx) := ⟨_, rfl⟩
      rw [← hTT] at HQ htl HPti
      have hR : partT 4 (ps.getD i noEx) TT = wrapT (wrapped 4 pk) TT := by unfold partT; rw [hkd]
      rw [hR] at HPti
      have hOl : O.length ≤ T.length := by rw [HO.out, HTx.out]; exact join_upto _ (by omega) (by rw [HNl.out]; exact Nat.le_refl _)
      have htl2 : TT.length + 5 ≤ 140737488355328 := by omega
      have hT2 := HTl.out
      unfold exV at HQ
      have i1 : (i : Int) < (n : Int) := by omega
      have w1 : IntKind.i64.wrap ((i : Int) + 1) = (i : Int) + 1 := by rw [IntKind.wrap_i64]; omega
      have HBa := Lib.hid fun o => (Below.refl wo.heap.size wo).alloc (Nat.le_refl _) o
      have s0 := fun o => ((HKw.out _ (HB.out.trans ((HBa.out o).mono hzo))).cell 0).trans rfl
      have HKc := Lib.hid fun W (hb : Below wo.heap.size wo W) => ((HKw.out W (HB.out.trans (hb.mono hzo))).cell 0).trans rfl
      obtain ⟨Q, hQ⟩ : ∃ Q, Q = 40 :: TT := ⟨_, rfl⟩
      have a1 := fun W => add_str (P := Tryz.prog) [40] TT (c := Q) (by rw [hQ]; rfl) (by simp; omega) W
      obtain ⟨Q2, hQ2⟩ : ∃ Q2, Q2 = 40 :: (TT ++ [41]) := ⟨_, rfl⟩
      have a2 := fun W => add_str (P := Tryz.prog) Q [41] (c := Q2) (by rw [hQ2, hQ]; rfl) (by rw [hQ]; simp; omega) W
      have hQl : Q2.length ≤ 140737488355328 := by rw [hQ2]; simp; omega
      have HQ2 := Lib.hid hQ2
      have HTl2 := Lib.hid htl2
      have HQl := Lib.hid hQl
      have HOl := Lib.hid hOl
      clear hpa hat hex hkd htl hTT hR hpf hps hQ hQ2
      rcases Nat.eq_zero_or_pos i with hi0 | hi0
      · subst hi0
        obtain rfl : O = [] := by rw [HO.out, partsT_0]; with_unfolding_all rfl
        rw [Nat.zero_mul, Nat.add_zero] at c0 c1 c2 c3 c4 c5 c6
        by_cases h4 : pk = 4
        · subst h4
          have HWR : Hid (wrapT (wrapped 4 4) TT = Q2) := Lib.hid HQ2.out.symm
          have a4 := fun W => add_str (P := Tryz.prog) [] Q2 (c := Q2) rfl (by simp; have := HTl2.out; have := HQl.out; omega) W
          go_wp2_with (go_at_call 20; refine (HQ.out _ (HBa.out _)).mono ?_; rintro e w2 ⟨rfl, hb2⟩; have HB2 := Lib.hid ((HBa.out _).trans (hb2.mono (by simp))); have r0 := ((Blk.below (Blk.new wo 26 #[.int .i64 4, .int .i64 px0, .int .i64 py0, .int .i64 px1, .int .i64 py1, .int .i64 pw, .slice PA pn pc]) hb2 (by simp)).cell 0).trans rfl; have s1 := HKc.out _ HB2.out; clear hb2)
          go_roundw
          case rel => exact ⟨1, Q2, by omega, by go_num, rfl, Lib.hid (by rw [HPti.out, HWR.out, join_first _ _ (partsT_0 f 4 ps)]), Lib.hid (HB.out.trans (HB2.out.mono hzo))⟩
          case measure => simp [intOf]; omega
        · have e4 : (pk == 4) = false := beq_eq_false_iff_ne.2 h4
          by_cases h3 : pk = 3
          · subst h3
            have HWR : Hid (wrapT (wrapped 4 3) TT = TT) := Lib.hid rfl
            have a4 := fun W => add_str (P := Tryz.prog) [] TT (c := TT) rfl (by simp; have := HTl2.out; have := HQl.out; omega) W
            go_wp2_with (go_at_call 20; refine (HQ.out _ (HBa.out _)).mono ?_; rintro e w2 ⟨rfl, hb2⟩; have HB2 := Lib.hid ((HBa.out _).trans (hb2.mono (by simp))); have r0 := ((Blk.below (Blk.new wo 26 #[.int .i64 3, .int .i64 px0, .int .i64 py0, .int .i64 px1, .int .i64 py1, .int .i64 pw, .slice PA pn pc]) hb2 (by simp)).cell 0).trans rfl; have s1 := HKc.out _ HB2.out; clear hb2)
            go_roundw
            case rel => exact ⟨1, TT, by omega, by go_num, rfl, Lib.hid (by rw [HPti.out, HWR.out, join_first _ _ (partsT_0 f 4 ps)]), Lib.hid (HB.out.trans (HB2.out.mono hzo))⟩
            case measure => simp [intOf]; omega
          · have e3 : (pk == 3) = false := beq_eq_false_iff_ne.2 h3
            have HWR : Hid (wrapT (wrapped 4 pk) TT = TT) := Lib.hid (by unfold wrapped; rw [e4, e3]; rfl)
            have a4 := fun W => add_str (P := Tryz.prog) [] TT (c := TT) rfl (by simp; have := HTl2.out; have := HQl.out; omega) W
            go_wp2_with (go_at_call 20; refine (HQ.out _ (HBa.out _)).mono ?_; rintro e w2 ⟨rfl, hb2⟩; have HB2 := Lib.hid ((HBa.out _).trans (hb2.mono (by simp))); have r0 := ((Blk.below (Blk.new wo 26 #[.int .i64 pk, .int .i64 px0, .int .i64 py0, .int .i64 px1, .int .i64 py1, .int .i64 pw, .slice PA pn pc]) hb2 (by simp)).cell 0).trans rfl; have s1 := HKc.out _ HB2.out; clear hb2)
            go_roundw
            case rel => exact ⟨1, TT, by omega, by go_num, rfl, Lib.hid (by rw [HPti.out, HWR.out, join_first _ _ (partsT_0 f 4 ps)]), Lib.hid (HB.out.trans (HB2.out.mono hzo))⟩
            case measure => simp [intOf]; omega
      · have d0 : decide ((0 : Int) < (i : Int)) = true := decide_eq_true (by omega)
        have HNe : Hid (partsT f 4 ps i ≠ []) := Lib.hid (by
          have hl : (partsT f 4 ps i).length = i := by with_unfolding_all (show ((ps.take i).map _).length = i); rw [List.length_map, List.length_take]; have := HNl.out; omega
          intro e; rw [e] at hl; simp at hl; omega)
        by_cases h4 : pk = 4
        · subst h4
          have HWR : Hid (wrapT (wrapped 4 4) TT = Q2) := Lib.hid HQ2.out.symm
          obtain ⟨S, hS⟩ : ∃ S, S = [32, 124, 32] ++ Q2 := ⟨_, rfl⟩
          have a3 := fun W => add_str (P := Tryz.prog) [32, 124, 32] Q2 (c := S) hS (by simp; have := HTl2.out; have := HQl.out; omega) W
          obtain ⟨O2, hO2⟩ : ∃ O2, O2 = O ++ S := ⟨_, rfl⟩
          have a4 := fun W => add_str (P := Tryz.prog) O S (c := O2) hO2 (by rw [hS]; simp; have := HTl2.out; have := HQl.out; have := HOl.out; omega) W
          have HST : Hid (O2 = O ++ ([32, 124, 32] ++ Q2)) := Lib.hid (by rw [hO2, hS])
          clear hS hO2
          go_wp2_with (go_at_call 20; refine (HQ.out _ (HBa.out _)).mono ?_; rintro e w2 ⟨rfl, hb2⟩; have HB2 := Lib.hid ((HBa.out _).trans (hb2.mono (by simp))); have r0 := ((Blk.below (Blk.new wo 26 #[.int .i64 4, .int .i64 px0, .int .i64 py0, .int .i64 px1, .int .i64 py1, .int .i64 pw, .slice PA pn pc]) hb2 (by simp)).cell 0).trans rfl; have s1 := HKc.out _ HB2.out; clear hb2)
          go_roundw
          case rel => exact ⟨i + 1, O2, by omega, by go_num, rfl, Lib.hid (by rw [HPti.out, HWR.out, join_next _ _ HNe.out, HST.out, HO.out]; rfl), Lib.hid (HB.out.trans (HB2.out.mono hzo))⟩
          case measure => simp [intOf]; omega
        · have e4 : (pk == 4) = false := beq_eq_false_iff_ne.2 h4
          by_cases h3 : pk = 3
          · subst h3
            have HWR : Hid (wrapT (wrapped 4 3) TT = TT) := Lib.hid rfl
            obtain ⟨S, hS⟩ : ∃ S, S = [32, 124, 32] ++ TT := ⟨_, rfl⟩
            have a3 := fun W => add_str (P := Tryz.prog) [32, 124, 32] TT (c := S) hS (by simp; have := HTl2.out; have := HQl.out; omega) W
            obtain ⟨O2, hO2⟩ : ∃ O2, O2 = O ++ S := ⟨_, rfl⟩
            have a4 := fun W => add_str (P := Tryz.prog) O S (c := O2) hO2 (by rw [hS]; simp; have := HTl2.out; have := HQl.out; have := HOl.out; omega) W
            have HST : Hid (O2 = O ++ ([32, 124, 32] ++ TT)) := Lib.hid (by rw [hO2, hS])
            clear hS hO2
            go_wp2_with (go_at_call 20; refine (HQ.out _ (HBa.out _)).mono ?_; rintro e w2 ⟨rfl, hb2⟩; have HB2 := Lib.hid ((HBa.out _).trans (hb2.mono (by simp))); have r0 := ((Blk.below (Blk.new wo 26 #[.int .i64 3, .int .i64 px0, .int .i64 py0, .int .i64 px1, .int .i64 py1, .int .i64 pw, .slice PA pn pc]) hb2 (by simp)).cell 0).trans rfl; have s1 := HKc.out _ HB2.out; clear hb2)
            go_roundw
            case rel => exact ⟨i + 1, O2, by omega, by go_num, rfl, Lib.hid (by rw [HPti.out, HWR.out, join_next _ _ HNe.out, HST.out, HO.out]; rfl), Lib.hid (HB.out.trans (HB2.out.mono hzo))⟩
            case measure => simp [intOf]; omega
          · have e3 : (pk == 3) = false := beq_eq_false_iff_ne.2 h3
            have HWR : Hid (wrapT (wrapped 4 pk) TT = TT) := Lib.hid (by unfold wrapped; rw [e4, e3]; rfl)
            obtain ⟨S, hS⟩ : ∃ S, S = [32, 124, 32] ++ TT := ⟨_, rfl⟩
            have a3 := fun W => add_str (P := Tryz.prog) [32, 124, 32] TT (c := S) hS (by simp; have := HTl2.out; have := HQl.out; omega) W
            obtain ⟨O2, hO2⟩ : ∃ O2, O2 = O ++ S := ⟨_, rfl⟩
            have a4 := fun W => add_str (P := Tryz.prog) O S (c := O2) hO2 (by rw [hS]; simp; have := HTl2.out; have := HQl.out; have := HOl.out; omega) W
            have HST : Hid (O2 = O ++ ([32, 124, 32] ++ TT)) := Lib.hid (by rw [hO2, hS])
            clear hS hO2
            go_wp2_with (go_at_call 20; refine (HQ.out _ (HBa.out _)).mono ?_; rintro e w2 ⟨rfl, hb2⟩; have HB2 := Lib.hid ((HBa.out _).trans (hb2.mono (by simp))); have r0 := ((Blk.below (Blk.new wo 26 #[.int .i64 pk, .int .i64 px0, .int .i64 py0, .int .i64 px1, .int .i64 py1, .int .i64 pw, .slice PA pn pc]) hb2 (by simp)).cell 0).trans rfl; have s1 := HKc.out _ HB2.out; clear hb2)
            go_roundw
            case rel => exact ⟨i + 1, O2, by omega, by go_num, rfl, Lib.hid (by rw [HPti.out, HWR.out, join_next _ _ HNe.out, HST.out, HO.out]; rfl), Lib.hid (HB.out.trans (HB2.out.mono hzo))⟩
            case measure => simp [intOf]; omega
    · obtain rfl : i = n := by omega
      have t1 : decide ((i : Int) < (i : Int)) = false := decide_eq_false (by omega)
      have HE : Hid (O = T) := Lib.hid (by rw [HO.out, HTx.out])
      clear HO
      go_wp2_with fail
      go_ret
      exact ⟨by rw [← HE.out]; rfl, HB0.out.trans (HB.out.mono hz0)⟩
set_option maxRecDepth 100000 in
set_option maxHeartbeats 16000000 in
theorem refText_k5 (f : Nat) (ps : List Ex) (x0 y0 x1 y1 ww : Int) (w : World) (B : Nat) (A : Option Addr) (n c sz : Nat) (hB : B ≤ w.heap.size) (HNl : Hid (n = ps.length)) (hn2 : Hid (n = 1)) (hsz : 48 * sz ≤ 140737488355328) (hmany : n ≤ sz) (hnc : n ≤ c) (hc : c ≤ 9223372036854775807)
    (IH : Hid (∀ (x : Ex) (v : Value) (W : World) (B : Nat), B ≤ W.heap.size → IsEx W B f v x → faultN f x = 0 → 48 * sizeN f x ≤ 140737488355328 → Calls Tryz.prog 20 #[v] W fun e w' => e = .returned (.string ⟨(textN f x).toArray⟩) ∧ Below W.heap.size W w'))
    (HP : Hid (0 < n → ∃ b o, A = some ⟨b, o, none⟩ ∧ b < B ∧ ∀ i, i < n → ∃ v', ExAt w b (o + i * 7) v' ∧ IsEx w B f v' (ps.getD i noEx)))
    (HPf : Hid (∀ i, i < n → faultN f (ps.getD i noEx) = 0)) (HPs : Hid (∀ i, i < n → sizeN f (ps.getD i noEx) ≤ sz)) (T : List UInt8) (HTx : Hid (T = 33 :: (partsT f 5 ps n).getD 0 [])) (HTl : Hid (T.length + 5 ≤ 48 * sz)) :
    Calls Tryz.prog 20 #[exV 5 x0 y0 x1 y1 ww A n c] w fun e w' => e = .returned (.string ⟨T.toArray⟩) ∧ Below w.heap.size w w' := by
  have HPt := Lib.hid fun i (hi : i < n) => partsT_s (f := f) (k := 5) (ps := ps) (i := i) (by rw [← HNl.out]; exact hi)
  unfold exV
  have HB0 := Lib.hid ((Below.refl w.heap.size w).alloc (Nat.le_refl _) (.cells #[.int .i64 5, .int .i64 x0, .int .i64 y0, .int .i64 x1, .int .i64 y1, .int .i64 ww, .slice A n c] 26))
  have HK := Lib.hid (Blk.new w 26 #[.int .i64 5, .int .i64 x0, .int .i64 y0, .int .i64 x1, .int .i64 y1, .int .i64 ww, .slice A n c])
  have k6 := (HK.out.cell 6).trans rfl
  have k0 := (HK.out.cell 0).trans rfl
  go_enter Tryz.func20, Tryz.ntmps20
  go_wp2_with fail
  generalize w.alloc (.cells #[.int .i64 5, .int .i64 x0, .int .i64 y0, .int .i64 x1, .int .i64 y1, .int .i64 ww, .slice A n c] 26) = W0 at *
  have hz0 := HB0.out.size
  have hkl := HK.out.lt
  have HKw := Lib.hid fun W (hb : Below W0.heap.size W0 W) => (HK.out.below hb hkl)
  clear k0 k6
  go_loopw [3, 43] (fun ov iv wr => ∃ (i : Nat) (O : List UInt8), i ≤ n ∧ iv = .int .i64 i ∧ ov = .string ⟨O.toArray⟩ ∧ Hid ((i = 0 ∧ O = []) ∨ (i = 1 ∧ O = 33 :: (partsT f 5 ps 1).getD 0 [])) ∧ Hid (Below W0.heap.size W0 wr)) (fun _ iv _ => n - (intOf iv).toNat)
  case atStart => exact ⟨0, [], by omega, rfl, rfl, Lib.hid (.inl ⟨rfl, rfl⟩), Lib.hid (Below.refl _ _)⟩
  case round =>
    obtain ⟨wo, rfl⟩ : ∃ wo : World, wo = wr := ⟨_, rfl⟩
    obtain ⟨i, O, hi, rfl, rfl, HO, HB⟩ := hrel
    have hzo := HB.out.size
    by_cases hlt : i < n
    · have t1 : decide ((i : Int) < (n : Int)) = true := decide_eq_true (by omega)
      obtain ⟨b, o, rfl, hb, hpa⟩ := HP.out (by omega)
      obtain ⟨v', hat, hex⟩ := hpa i hlt
      obtain ⟨pk, px0, py0, px1, py1, pw, PA, pn, pc, rfl, c0, c1, c2, c3, c4, c5, c6⟩ := (hat.below ((HB0.out.mono hB).trans (HB.out.mono (by omega))) hb)
      have HPti := Lib.hid (HPt.out i hlt)
      have hpf := HPf.out i hlt
      have hps := HPs.out i hlt
      have hkd := hex.kind
      have htl := text_len _ _ hpf
      have HBw : Hid (Below w.heap.size w wo) := Lib.hid (HB0.out.trans (HB.out.mono hz0))
      have HQ := Lib.hid fun W (hbw : Below wo.heap.size wo W) => IH.out (ps.getD i noEx) _ W B (by have := hbw.size; have := HBw.out.size; omega) (hex.below (((HBw.out.trans (hbw.mono HBw.out.size)).mono hB))) hpf (by omega)
      obtain ⟨TT, hTT⟩ : ∃ t, t = textN f (ps.getD i noEx) := ⟨_, rfl⟩
      rw [← hTT] at HQ htl HPti
      have hR : partT 5 (ps.getD i noEx) TT = wrapT (wrapped 5 pk) TT := by unfold partT; rw [hkd]
      rw [hR] at HPti
      have hOl : O.length ≤ T.length := by rcases HO.out with ⟨_, h⟩ | ⟨h, _⟩; rw [h]; exact Nat.zero_le _; have := hn2.out; omega
      have htl2 : TT.length + 5 ≤ 140737488355328 := by omega
      have hT2 := HTl.out
      unfold exV at HQ
      have i1 : (i : Int) < (n : Int) := by omega
      have w1 : IntKind.i64.wrap ((i : Int) + 1) = (i : Int) + 1 := by rw [IntKind.wrap_i64]; omega
      have HBa := Lib.hid fun o => (Below.refl wo.heap.size wo).alloc (Nat.le_refl _) o
      have s0 := fun o => ((HKw.out _ (HB.out.trans ((HBa.out o).mono hzo))).cell 0).trans rfl
      have HKc := Lib.hid fun W (hb : Below wo.heap.size wo W) => ((HKw.out W (HB.out.trans (hb.mono hzo))).cell 0).trans rfl
      obtain ⟨Q, hQ⟩ : ∃ Q, Q = 40 :: TT := ⟨_, rfl⟩
      have a1 := fun W => add_str (P := Tryz.prog) [40] TT (c := Q) (by rw [hQ]; rfl) (by simp; omega) W
      obtain ⟨Q2, hQ2⟩ : ∃ Q2, Q2 = 40 :: (TT ++ [41]) := ⟨_, rfl⟩
      have a2 := fun W => add_str (P := Tryz.prog) Q [41] (c := Q2) (by rw [hQ2, hQ]; rfl) (by rw [hQ]; simp; omega) W
      have hQl : Q2.length ≤ 140737488355328 := by rw [hQ2]; simp; omega
      have HQ2 := Lib.hid hQ2
      have HTl2 := Lib.hid htl2
      have HQl := Lib.hid hQl
      have HOl := Lib.hid hOl
      clear hpa hat hex hkd htl hTT hR hpf hps hQ hQ2
      obtain rfl : i = 0 := by have := hn2.out; omega
      obtain rfl : O = [] := by rcases HO.out with ⟨_, h⟩ | ⟨h, _⟩; exact h; omega
      rw [Nat.zero_mul, Nat.add_zero] at c0 c1 c2 c3 c4 c5 c6
      by_cases h4 : pk = 4
      · subst h4
        have HWR : Hid (wrapT (wrapped 5 4) TT = Q2) := Lib.hid HQ2.out.symm
        obtain ⟨S, hS⟩ : ∃ S, S = 33 :: Q2 := ⟨_, rfl⟩
        have a3 := fun W => add_str (P := Tryz.prog) [33] Q2 (c := S) (by rw [hS]; rfl) (by simp; have := HTl2.out; have := HQl.out; omega) W
        have a4 := fun W => add_str (P := Tryz.prog) [] S (c := S) rfl (by rw [hS]; simp; have := HTl2.out; have := HQl.out; omega) W
        have HST : Hid (S = 33 :: Q2) := Lib.hid hS
        clear hS
        go_wp2_with (go_at_call 20; refine (HQ.out _ (HBa.out _)).mono ?_; rintro e w2 ⟨rfl, hb2⟩; have HB2 := Lib.hid ((HBa.out _).trans (hb2.mono (by simp))); have r0 := ((Blk.below (Blk.new wo 26 #[.int .i64 4, .int .i64 px0, .int .i64 py0, .int .i64 px1, .int .i64 py1, .int .i64 pw, .slice PA pn pc]) hb2 (by simp)).cell 0).trans rfl; have s1 := HKc.out _ HB2.out; clear hb2)
        go_roundw
        case rel => exact ⟨1, S, by omega, by go_num, rfl, Lib.hid (.inr ⟨rfl, by rw [HPti.out, HWR.out, HST.out, partsT_0]; rfl⟩), Lib.hid (HB.out.trans (HB2.out.mono hzo))⟩
        case measure => simp [intOf]; omega
      · have e4 : (pk == 4) = false := beq_eq_false_iff_ne.2 h4
        by_cases h3 : pk = 3
        · subst h3
          have HWR : Hid (wrapT (wrapped 5 3) TT = Q2) := Lib.hid HQ2.out.symm
          obtain ⟨S, hS⟩ : ∃ S, S = 33 :: Q2 := ⟨_, rfl⟩
          have a3 := fun W => add_str (P := Tryz.prog) [33] Q2 (c := S) (by rw [hS]; rfl) (by simp; have := HTl2.out; have := HQl.out; omega) W
          have a4 := fun W => add_str (P := Tryz.prog) [] S (c := S) rfl (by rw [hS]; simp; have := HTl2.out; have := HQl.out; omega) W
          have HST : Hid (S = 33 :: Q2) := Lib.hid hS
          clear hS
          go_wp2_with (go_at_call 20; refine (HQ.out _ (HBa.out _)).mono ?_; rintro e w2 ⟨rfl, hb2⟩; have HB2 := Lib.hid ((HBa.out _).trans (hb2.mono (by simp))); have r0 := ((Blk.below (Blk.new wo 26 #[.int .i64 3, .int .i64 px0, .int .i64 py0, .int .i64 px1, .int .i64 py1, .int .i64 pw, .slice PA pn pc]) hb2 (by simp)).cell 0).trans rfl; have s1 := HKc.out _ HB2.out; clear hb2)
          go_roundw
          case rel => exact ⟨1, S, by omega, by go_num, rfl, Lib.hid (.inr ⟨rfl, by rw [HPti.out, HWR.out, HST.out, partsT_0]; rfl⟩), Lib.hid (HB.out.trans (HB2.out.mono hzo))⟩
          case measure => simp [intOf]; omega
        · have e3 : (pk == 3) = false := beq_eq_false_iff_ne.2 h3
          have HWR : Hid (wrapT (wrapped 5 pk) TT = TT) := Lib.hid (by unfold wrapped; rw [e4, e3]; rfl)
          obtain ⟨S, hS⟩ : ∃ S, S = 33 :: TT := ⟨_, rfl⟩
          have a3 := fun W => add_str (P := Tryz.prog) [33] TT (c := S) (by rw [hS]; rfl) (by simp; have := HTl2.out; have := HQl.out; omega) W
          have a4 := fun W => add_str (P := Tryz.prog) [] S (c := S) rfl (by rw [hS]; simp; have := HTl2.out; have := HQl.out; omega) W
          have HST : Hid (S = 33 :: TT) := Lib.hid hS
          clear hS
          go_wp2_with (go_at_call 20; refine (HQ.out _ (HBa.out _)).mono ?_; rintro e w2 ⟨rfl, hb2⟩; have HB2 := Lib.hid ((HBa.out _).trans (hb2.mono (by simp))); have r0 := ((Blk.below (Blk.new wo 26 #[.int .i64 pk, .int .i64 px0, .int .i64 py0, .int .i64 px1, .int .i64 py1, .int .i64 pw, .slice PA pn pc]) hb2 (by simp)).cell 0).trans rfl; have s1 := HKc.out _ HB2.out; clear hb2)
          go_roundw
          case rel => exact ⟨1, S, by omega, by go_num, rfl, Lib.hid (.inr ⟨rfl, by rw [HPti.out, HWR.out, HST.out, partsT_0]; rfl⟩), Lib.hid (HB.out.trans (HB2.out.mono hzo))⟩
          case measure => simp [intOf]; omega
    · obtain rfl : i = n := by omega
      have t1 : decide ((i : Int) < (i : Int)) = false := decide_eq_false (by omega)
      have HE : Hid (O = T) := Lib.hid (by rcases HO.out with ⟨h, _⟩ | ⟨_, h⟩; have := hn2.out; omega; rw [h, HTx.out, hn2.out])
      clear HO
      go_wp2_with fail
      go_ret
      exact ⟨by rw [← HE.out]; rfl, HB0.out.trans (HB.out.mono hz0)⟩
end Go.Proofs.YtlojecajonhmhaaGreatDoor
