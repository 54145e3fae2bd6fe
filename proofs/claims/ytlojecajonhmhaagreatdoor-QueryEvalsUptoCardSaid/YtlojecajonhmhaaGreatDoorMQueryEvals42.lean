/-
  Texts of one claim behind each other. Conditions: none of its own.
-/
import Derived.Test.YtlojecajonhmhaaGreatDoorMQueryEvals41
set_option linter.unusedVariables false
set_option linter.unusedSimpArgs false
/-
  Contract of the reference's exprFault at an expression of kind 3 that is of the form, its parts' faults known. Conditions: as the fault's.
-/
namespace Go.Proofs.YtlojecajonhmhaaGreatDoor
open Go Go.RowKit Go.Dam Go.Dam.Q
set_option linter.unusedVariables false
set_option maxRecDepth 100000 in
set_option maxHeartbeats 8000000 in
theorem refFault_k3 (f : Nat) (ps : List Ex) (w : World) (B : Nat) (d : Int) (A : Option Addr) (n c : Nat) (hd3 : d < 8) (hd4 : 0 ≤ d) (hB : B ≤ w.heap.size)
    (HIH : Hid (∀ (x : Ex) (v : Value) (W : World), B ≤ W.heap.size → IsEx W B f v x → Calls Tryz.prog 19 #[v, .int .i64 (d + 1)] W fun e w' => e = .returned (.int .i64 (faultN f x)) ∧ Below W.heap.size W w'))
    (HP : Hid (0 < n → ∃ b o, A = some ⟨b, o, none⟩ ∧ b < B ∧ ∀ i, i < n → ∃ v', ExAt w b (o + i * 7) v' ∧ IsEx w B f v' (ps.getD i noEx)))
    (cf : Int) (HF2 : Hid (∀ j, j < 5 → nearQ (([0, 0, 0, 0, 0] : List Int).getD j 0) = false → cf = 2)) (HF0' : Hid ((∀ j, j < 5 → nearQ (([0, 0, 0, 0, 0] : List Int).getD j 0) = true) → (∀ j, j < n → faultN f (ps.getD j noEx) = 0) → cf = 0)) (HF1' : Hid ((∀ j, j < 5 → nearQ (([0, 0, 0, 0, 0] : List Int).getD j 0) = true) → ∀ i, i < n → (∀ j, j < i → faultN f (ps.getD j noEx) = 0) → faultN f (ps.getD i noEx) ≠ 0 → cf = faultN f (ps.getD i noEx)))
    (hn : n ≤ 140737488355328) (hnc : n ≤ c) (hc : c ≤ 9223372036854775807) (hk3 : decide ((2 : Int) ≤ (n : Int)) = true) :
    Calls Tryz.prog 19 #[exV 3 0 0 0 0 0 A n c, .int .i64 d] w fun e w' => e = .returned (.int .i64 cf) ∧ Below w.heap.size w w' := by
  have HC := Lib.hid coordMay_any
  have hd1 : (d == 8) = false := beq_eq_false_iff_ne.2 (by omega)
  have hw1 : IntKind.i64.wrap (d + 1) = d + 1 := by rw [IntKind.wrap_i64]; omega
  unfold exV
  have HBb : Hid (Below w.heap.size w ((w.alloc (.cells #[.int .i64 3, .int .i64 0, .int .i64 0, .int .i64 0, .int .i64 0, .int .i64 0, .slice A n c] 26)).alloc (.cells #[.int .i64 0, .int .i64 0, .int .i64 0, .int .i64 0] 23))) := Lib.hid (((Below.refl _ _).alloc (Nat.le_refl _) _).alloc (by simp) _)
  have HZb : Hid (((w.alloc (.cells #[.int .i64 3, .int .i64 0, .int .i64 0, .int .i64 0, .int .i64 0, .int .i64 0, .slice A n c] 26)).alloc (.cells #[.int .i64 0, .int .i64 0, .int .i64 0, .int .i64 0] 23)).heap.size = w.heap.size + 1 + 1) := Lib.hid (by simp)
  have HK : Hid (Blk ((w.alloc (.cells #[.int .i64 3, .int .i64 0, .int .i64 0, .int .i64 0, .int .i64 0, .int .i64 0, .slice A n c] 26)).alloc (.cells #[.int .i64 0, .int .i64 0, .int .i64 0, .int .i64 0] 23)) w.heap.size 26 #[.int .i64 3, .int .i64 0, .int .i64 0, .int .i64 0, .int .i64 0, .int .i64 0, .slice A n c]) := Lib.hid ((Blk.new w _ _).alloc _)
  go_enter Tryz.func19, Tryz.ntmps19
  go_upto_region 14 with fail
  have q1 := (HK.out.cell 1).trans rfl
  have q2 := (HK.out.cell 2).trans rfl
  have q3 := (HK.out.cell 3).trans rfl
  have q4 := (HK.out.cell 4).trans rfl
  have q5 := (HK.out.cell 5).trans rfl
  generalize (w.alloc (.cells #[.int .i64 3, .int .i64 0, .int .i64 0, .int .i64 0, .int .i64 0, .int .i64 0, .slice A n c] 26)).alloc (.cells #[.int .i64 0, .int .i64 0, .int .i64 0, .int .i64 0] 23) = Wb at *
  clear hk3 hd1
  have HL := Lib.hid (Blk.new Wb 3 #[.int .i64 0, .int .i64 0, .int .i64 0, .int .i64 0, .int .i64 0])
  have HB0 : Hid (Below w.heap.size w (Wb.alloc (.cells #[.int .i64 0, .int .i64 0, .int .i64 0, .int .i64 0, .int .i64 0] 3))) := Lib.hid (HBb.out.alloc (by have := HZb.out; omega) _)
  have HK2 := Lib.hid (HK.out.alloc (.cells #[.int .i64 0, .int .i64 0, .int .i64 0, .int .i64 0, .int .i64 0] 3))
  go_wp2_with fail
  clear q1 q2 q3 q4 q5
  generalize Wb.alloc (.cells #[.int .i64 0, .int .i64 0, .int .i64 0, .int .i64 0, .int .i64 0] 3) = W0 at *
  go_loop [83] (fun jv => ∃ j : Nat, j ≤ 5 ∧ jv = .int .i64 j ∧ Hid (∀ i, i < j → nearQ (([0, 0, 0, 0, 0] : List Int).getD i 0) = true)) (fun jv => 5 - (intOf jv).toNat)
  case atStart => exact ⟨0, by omega, rfl, Lib.hid (fun i hi => absurd hi (by omega))⟩
  case round =>
    obtain ⟨j, hj, rfl, HZn⟩ := hrel
    by_cases hj5 : j < 5
    · have t1 : decide ((j : Int) < 5) = true := decide_eq_true (by omega)
      have hlj : W0.cell? ⟨Wb.heap.size, j, none⟩ = some (.int .i64 (([0, 0, 0, 0, 0] : List Int).getD j 0)) := by
        rw [HL.out.cell]
        match j, hj5 with
        | 0, _ => rfl
        | 1, _ => rfl
        | 2, _ => rfl
        | 3, _ => rfl
        | 4, _ => rfl
      have HF2j := Lib.hid (HF2.out j hj5)
      have HNs : Hid (nearQ (([0, 0, 0, 0, 0] : List Int).getD j 0) = true → ∀ i, i < j + 1 → nearQ (([0, 0, 0, 0, 0] : List Int).getD i 0) = true) := Lib.hid fun h i hi => by
        rcases Nat.lt_succ_iff_lt_or_eq.1 hi with h' | rfl
        · exact HZn.out i h'
        · exact h
      have HCj := Lib.hid fun W => coordMay_any (([0, 0, 0, 0, 0] : List Int).getD j 0) (nearQ (([0, 0, 0, 0, 0] : List Int).getD j 0)) W (coord_near _)
      obtain ⟨b, hb⟩ : ∃ b, b = nearQ (([0, 0, 0, 0, 0] : List Int).getD j 0) := ⟨_, rfl⟩
      rw [← hb] at HF2j HNs HCj
      generalize ([0, 0, 0, 0, 0] : List Int).getD j 0 = z at hlj HCj
      have j1 : (j : Int) < 5 := by omega
      have w1 : IntKind.i64.wrap ((j : Int) + 1) = (j : Int) + 1 := by rw [IntKind.wrap_i64]; omega
      clear hb
      cases b with
      | true =>
        go_wp2_with (go_at_call 21; refine (HCj.out _).mono ?_; rintro e w2 ⟨rfl, rfl⟩)
        go_round
        case rel => exact ⟨j + 1, by omega, by go_num, Lib.hid (HNs.out trivial)⟩
        case measure => simp [intOf]; omega
      | false =>
        go_wp2_with (go_at_call 21; refine (HCj.out _).mono ?_; rintro e w2 ⟨rfl, rfl⟩)
        go_ret
        exact ⟨by rw [HF2j.out trivial]; rfl, HB0.out⟩
    · obtain rfl : j = 5 := by omega
      have HF0 := Lib.hid (HF0'.out HZn.out)
      have HF1 := Lib.hid (HF1'.out HZn.out)
      have q6 := (HK2.out.cell 6).trans rfl
      clear HF0' HF1' HF2 HZn HL HC
      go_wp2_with fail
      go_loopw [94] (fun iv wr => ∃ i : Nat, i ≤ n ∧ iv = .int .i64 i ∧ Hid (∀ j, j < i → faultN f (ps.getD j noEx) = 0) ∧ Hid (Below w.heap.size w wr)) (fun iv _ => n - (intOf iv).toNat)
      case atStart => exact ⟨0, by omega, rfl, Lib.hid (fun j hj => absurd hj (by omega)), HB0⟩
      case round =>
        obtain ⟨wo, rfl⟩ : ∃ wo : World, wo = wr := ⟨_, rfl⟩
        obtain ⟨i, hi, rfl, HZ, HB⟩ := hrel
        have hzo := HB.out.size
        by_cases hlt : i < n
        · have t1 : decide ((i : Int) < (n : Int)) = true := decide_eq_true (by omega)
          obtain ⟨b, o, rfl, hb, hpa⟩ := HP.out (by omega)
          obtain ⟨v', hat, hex⟩ := hpa i hlt
          obtain ⟨pk, px0, py0, px1, py1, pw, PA, pn, pc, rfl, c0, c1, c2, c3, c4, c5, c6⟩ := (hat.below HB.out (by omega))
          have HI := Lib.hid fun W (hb : Below wo.heap.size wo W) => HIH.out _ _ W (by have := hb.size; omega) (hex.below (((HB.out.mono hB).trans (hb.mono (by omega)))))
          have HF1i := Lib.hid (HF1.out i hlt HZ.out)
          obtain ⟨ci, hci⟩ : ∃ c, c = faultN f (ps.getD i noEx) := ⟨_, rfl⟩
          rw [← hci] at HI HF1i
          have HCi := Lib.hid hci
          unfold exV at HI
          have i1 : (i : Int) < (n : Int) := by omega
          have w1 : IntKind.i64.wrap ((i : Int) + 1) = (i : Int) + 1 := by rw [IntKind.wrap_i64]; omega
          clear hpa hat hex hci
          have HBa := Lib.hid fun o => (Below.refl wo.heap.size wo).alloc (Nat.le_refl _) o
          by_cases hc0 : ci = 0
          · obtain rfl := hc0
            go_wp2_with (go_at_call 19; refine (HI.out _ (HBa.out _)).mono ?_; rintro e w2 ⟨rfl, hb2⟩)
            go_roundw
            case rel => exact ⟨i + 1, by omega, by go_num, Lib.hid (fun j hj => by rcases Nat.lt_succ_iff_lt_or_eq.1 hj with h | rfl; exact HZ.out j h; exact HCi.out.symm), Lib.hid (HB.out.trans (((HBa.out _).mono hzo).trans (hb2.mono (by simp; omega))))⟩
            case measure => simp [intOf]; omega
          · have t2 : (ci != 0) = true := bne_iff_ne.2 hc0
            go_wp2_with (go_at_call 19; refine (HI.out _ (HBa.out _)).mono ?_; rintro e w2 ⟨rfl, hb2⟩)
            go_ret
            exact ⟨by rw [HF1i.out hc0]; rfl, HB.out.trans (((HBa.out _).mono hzo).trans (hb2.mono (by simp; omega)))⟩
        · obtain rfl : i = n := by omega
          have t1 : decide ((i : Int) < (i : Int)) = false := decide_eq_false (by omega)
          have hcz := HF0.out (fun j hj => HZ.out j hj)
          go_wp2_with fail
          go_ret
          exact ⟨by rw [hcz]; rfl, HB.out⟩
end Go.Proofs.YtlojecajonhmhaaGreatDoor

/-
  Contract of the reference's exprFault at an expression of kind 4 that is of the form, its parts' faults known. Conditions: as the fault's.
-/
namespace Go.Proofs.YtlojecajonhmhaaGreatDoor
open Go Go.RowKit Go.Dam Go.Dam.Q
set_option linter.unusedVariables false
set_option maxRecDepth 100000 in
set_option maxHeartbeats 8000000 in
theorem refFault_k4 (f : Nat) (ps : List Ex) (w : World) (B : Nat) (d : Int) (A : Option Addr) (n c : Nat) (hd3 : d < 8) (hd4 : 0 ≤ d) (hB : B ≤ w.heap.size)
    (HIH : Hid (∀ (x : Ex) (v : Value) (W : World), B ≤ W.heap.size → IsEx W B f v x → Calls Tryz.prog 19 #[v, .int .i64 (d + 1)] W fun e w' => e = .returned (.int .i64 (faultN f x)) ∧ Below W.heap.size W w'))
    (HP : Hid (0 < n → ∃ b o, A = some ⟨b, o, none⟩ ∧ b < B ∧ ∀ i, i < n → ∃ v', ExAt w b (o + i * 7) v' ∧ IsEx w B f v' (ps.getD i noEx)))
    (cf : Int) (HF2 : Hid (∀ j, j < 5 → nearQ (([0, 0, 0, 0, 0] : List Int).getD j 0) = false → cf = 2)) (HF0' : Hid ((∀ j, j < 5 → nearQ (([0, 0, 0, 0, 0] : List Int).getD j 0) = true) → (∀ j, j < n → faultN f (ps.getD j noEx) = 0) → cf = 0)) (HF1' : Hid ((∀ j, j < 5 → nearQ (([0, 0, 0, 0, 0] : List Int).getD j 0) = true) → ∀ i, i < n → (∀ j, j < i → faultN f (ps.getD j noEx) = 0) → faultN f (ps.getD i noEx) ≠ 0 → cf = faultN f (ps.getD i noEx)))
    (hn : n ≤ 140737488355328) (hnc : n ≤ c) (hc : c ≤ 9223372036854775807) (hk3 : decide ((2 : Int) ≤ (n : Int)) = true) :
    Calls Tryz.prog 19 #[exV 4 0 0 0 0 0 A n c, .int .i64 d] w fun e w' => e = .returned (.int .i64 cf) ∧ Below w.heap.size w w' := by
  have HC := Lib.hid coordMay_any
  have hd1 : (d == 8) = false := beq_eq_false_iff_ne.2 (by omega)
  have hw1 : IntKind.i64.wrap (d + 1) = d + 1 := by rw [IntKind.wrap_i64]; omega
  unfold exV
  have HBb : Hid (Below w.heap.size w ((w.alloc (.cells #[.int .i64 4, .int .i64 0, .int .i64 0, .int .i64 0, .int .i64 0, .int .i64 0, .slice A n c] 26)).alloc (.cells #[.int .i64 0, .int .i64 0, .int .i64 0, .int .i64 0] 23))) := Lib.hid (((Below.refl _ _).alloc (Nat.le_refl _) _).alloc (by simp) _)
  have HZb : Hid (((w.alloc (.cells #[.int .i64 4, .int .i64 0, .int .i64 0, .int .i64 0, .int .i64 0, .int .i64 0, .slice A n c] 26)).alloc (.cells #[.int .i64 0, .int .i64 0, .int .i64 0, .int .i64 0] 23)).heap.size = w.heap.size + 1 + 1) := Lib.hid (by simp)
  have HK : Hid (Blk ((w.alloc (.cells #[.int .i64 4, .int .i64 0, .int .i64 0, .int .i64 0, .int .i64 0, .int .i64 0, .slice A n c] 26)).alloc (.cells #[.int .i64 0, .int .i64 0, .int .i64 0, .int .i64 0] 23)) w.heap.size 26 #[.int .i64 4, .int .i64 0, .int .i64 0, .int .i64 0, .int .i64 0, .int .i64 0, .slice A n c]) := Lib.hid ((Blk.new w _ _).alloc _)
  go_enter Tryz.func19, Tryz.ntmps19
  go_upto_region 14 with fail
  have q1 := (HK.out.cell 1).trans rfl
  have q2 := (HK.out.cell 2).trans rfl
  have q3 := (HK.out.cell 3).trans rfl
  have q4 := (HK.out.cell 4).trans rfl
  have q5 := (HK.out.cell 5).trans rfl
  generalize (w.alloc (.cells #[.int .i64 4, .int .i64 0, .int .i64 0, .int .i64 0, .int .i64 0, .int .i64 0, .slice A n c] 26)).alloc (.cells #[.int .i64 0, .int .i64 0, .int .i64 0, .int .i64 0] 23) = Wb at *
  clear hk3 hd1
  have HL := Lib.hid (Blk.new Wb 3 #[.int .i64 0, .int .i64 0, .int .i64 0, .int .i64 0, .int .i64 0])
  have HB0 : Hid (Below w.heap.size w (Wb.alloc (.cells #[.int .i64 0, .int .i64 0, .int .i64 0, .int .i64 0, .int .i64 0] 3))) := Lib.hid (HBb.out.alloc (by have := HZb.out; omega) _)
  have HK2 := Lib.hid (HK.out.alloc (.cells #[.int .i64 0, .int .i64 0, .int .i64 0, .int .i64 0, .int .i64 0] 3))
  go_wp2_with fail
  clear q1 q2 q3 q4 q5
  generalize Wb.alloc (.cells #[.int .i64 0, .int .i64 0, .int .i64 0, .int .i64 0, .int .i64 0] 3) = W0 at *
  go_loop [83] (fun jv => ∃ j : Nat, j ≤ 5 ∧ jv = .int .i64 j ∧ Hid (∀ i, i < j → nearQ (([0, 0, 0, 0, 0] : List Int).getD i 0) = true)) (fun jv => 5 - (intOf jv).toNat)
  case atStart => exact ⟨0, by omega, rfl, Lib.hid (fun i hi => absurd hi (by omega))⟩
  case round =>
    obtain ⟨j, hj, rfl, HZn⟩ := hrel
    by_cases hj5 : j < 5
    · have t1 : decide ((j : Int) < 5) = true := decide_eq_true (by omega)
      have hlj : W0.cell? ⟨Wb.heap.size, j, none⟩ = some (.int .i64 (([0, 0, 0, 0, 0] : List Int).getD j 0)) := by
        rw [HL.out.cell]
        match j, hj5 with
        | 0, _ => rfl
        | 1, _ => rfl
        | 2, _ => rfl
        | 3, _ => rfl
        | 4, _ => rfl
      have HF2j := Lib.hid (HF2.out j hj5)
      have HNs : Hid (nearQ (([0, 0, 0, 0, 0] : List Int).getD j 0) = true → ∀ i, i < j + 1 → nearQ (([0, 0, 0, 0, 0] : List Int).getD i 0) = true) := Lib.hid fun h i hi => by
        rcases Nat.lt_succ_iff_lt_or_eq.1 hi with h' | rfl
        · exact HZn.out i h'
        · exact h
      have HCj := Lib.hid fun W => coordMay_any (([0, 0, 0, 0, 0] : List Int).getD j 0) (nearQ (([0, 0, 0, 0, 0] : List Int).getD j 0)) W (coord_near _)
      obtain ⟨b, hb⟩ : ∃ b, b = nearQ (([0, 0, 0, 0, 0] : List Int).getD j 0) := ⟨_, rfl⟩
      rw [← hb] at HF2j HNs HCj
      generalize ([0, 0, 0, 0, 0] : List Int).getD j 0 = z at hlj HCj
      have j1 : (j : Int) < 5 := by omega
      have w1 : IntKind.i64.wrap ((j : Int) + 1) = (j : Int) + 1 := by rw [IntKind.wrap_i64]; omega
      clear hb
      cases b with
      | true =>
        go_wp2_with (go_at_call 21; refine (HCj.out _).mono ?_; rintro e w2 ⟨rfl, rfl⟩)
        go_round
        case rel => exact ⟨j + 1, by omega, by go_num, Lib.hid (HNs.out trivial)⟩
        case measure => simp [intOf]; omega
      | false =>
        go_wp2_with (go_at_call 21; refine (HCj.out _).mono ?_; rintro e w2 ⟨rfl, rfl⟩)
        go_ret
        exact ⟨by rw [HF2j.out trivial]; rfl, HB0.out⟩
    · obtain rfl : j = 5 := by omega
      have HF0 := Lib.hid (HF0'.out HZn.out)
      have HF1 := Lib.hid (HF1'.out HZn.out)
      have q6 := (HK2.out.cell 6).trans rfl
      clear HF0' HF1' HF2 HZn HL HC
      go_wp2_with fail
      go_loopw [94] (fun iv wr => ∃ i : Nat, i ≤ n ∧ iv = .int .i64 i ∧ Hid (∀ j, j < i → faultN f (ps.getD j noEx) = 0) ∧ Hid (Below w.heap.size w wr)) (fun iv _ => n - (intOf iv).toNat)
      case atStart => exact ⟨0, by omega, rfl, Lib.hid (fun j hj => absurd hj (by omega)), HB0⟩
      case round =>
        obtain ⟨wo, rfl⟩ : ∃ wo : World, wo = wr := ⟨_, rfl⟩
        obtain ⟨i, hi, rfl, HZ, HB⟩ := hrel
        have hzo := HB.out.size
        by_cases hlt : i < n
        · have t1 : decide ((i : Int) < (n : Int)) = true := decide_eq_true (by omega)
          obtain ⟨b, o, rfl, hb, hpa⟩ := HP.out (by omega)
          obtain ⟨v', hat, hex⟩ := hpa i hlt
          obtain ⟨pk, px0, py0, px1, py1, pw, PA, pn, pc, rfl, c0, c1, c2, c3, c4, c5, c6⟩ := (hat.below HB.out (by omega))
          have HI := Lib.hid fun W (hb : Below wo.heap.size wo W) => HIH.out _ _ W (by have := hb.size; omega) (hex.below (((HB.out.mono hB).trans (hb.mono (by omega)))))
          have HF1i := Lib.hid (HF1.out i hlt HZ.out)
          obtain ⟨ci, hci⟩ : ∃ c, c = faultN f (ps.getD i noEx) := ⟨_, rfl⟩
          rw [← hci] at HI HF1i
          have HCi := Lib.hid hci
          unfold exV at HI
          have i1 : (i : Int) < (n : Int) := by omega
          have w1 : IntKind.i64.wrap ((i : Int) + 1) = (i : Int) + 1 := by rw [IntKind.wrap_i64]; omega
          clear hpa hat hex hci
          have HBa := Lib.hid fun o => (Below.refl wo.heap.size wo).alloc (Nat.le_refl _) o
          by_cases hc0 : ci = 0
          · obtain rfl := hc0
            go_wp2_with (go_at_call 19; refine (HI.out _ (HBa.out _)).mono ?_; rintro e w2 ⟨rfl, hb2⟩)
            go_roundw
            case rel => exact ⟨i + 1, by omega, by go_num, Lib.hid (fun j hj => by rcases Nat.lt_succ_iff_lt_or_eq.1 hj with h | rfl; exact HZ.out j h; exact HCi.out.symm), Lib.hid (HB.out.trans (((HBa.out _).mono hzo).trans (hb2.mono (by simp; omega))))⟩
            case measure => simp [intOf]; omega
          · have t2 : (ci != 0) = true := bne_iff_ne.2 hc0
            go_wp2_with (go_at_call 19; refine (HI.out _ (HBa.out _)).mono ?_; rintro e w2 ⟨rfl, hb2⟩)
            go_ret
            exact ⟨by rw [HF1i.out hc0]; rfl, HB.out.trans (((HBa.out _).mono hzo).trans (hb2.mono (by simp; omega)))⟩
        · obtain rfl : i = n := by omega
          have t1 : decide ((i : Int) < (i : Int)) = false := decide_eq_false (by omega)
          have hcz := HF0.out (fun j hj => HZ.out j hj)
          go_wp2_with fail
          go_ret
          exact ⟨by rw [hcz]; rfl, HB.out⟩
end Go.Proofs.YtlojecajonhmhaaGreatDoor

/-
  Contract of the reference's exprFault at an expression of kind 5 that is of the form, its parts' faults known. Conditions: as the fault's.
-/
namespace Go.Proofs.YtlojecajonhmhaaGreatDoor
open Go Go.RowKit Go.Dam Go.Dam.Q
set_option linter.unusedVariables false
set_option maxRecDepth 100000 in
set_option maxHeartbeats 8000000 in
theorem refFault_k5 (f : Nat) (ps : List Ex) (w : World) (B : Nat) (d : Int) (A : Option Addr) (n c : Nat) (hd3 : d < 8) (hd4 : 0 ≤ d) (hB : B ≤ w.heap.size)
    (HIH : Hid (∀ (x : Ex) (v : Value) (W : World), B ≤ W.heap.size → IsEx W B f v x → Calls Tryz.prog 19 #[v, .int .i64 (d + 1)] W fun e w' => e = .returned (.int .i64 (faultN f x)) ∧ Below W.heap.size W w'))
    (HP : Hid (0 < n → ∃ b o, A = some ⟨b, o, none⟩ ∧ b < B ∧ ∀ i, i < n → ∃ v', ExAt w b (o + i * 7) v' ∧ IsEx w B f v' (ps.getD i noEx)))
    (cf : Int) (HF2 : Hid (∀ j, j < 5 → nearQ (([0, 0, 0, 0, 0] : List Int).getD j 0) = false → cf = 2)) (HF0' : Hid ((∀ j, j < 5 → nearQ (([0, 0, 0, 0, 0] : List Int).getD j 0) = true) → (∀ j, j < n → faultN f (ps.getD j noEx) = 0) → cf = 0)) (HF1' : Hid ((∀ j, j < 5 → nearQ (([0, 0, 0, 0, 0] : List Int).getD j 0) = true) → ∀ i, i < n → (∀ j, j < i → faultN f (ps.getD j noEx) = 0) → faultN f (ps.getD i noEx) ≠ 0 → cf = faultN f (ps.getD i noEx)))
    (hn : n ≤ 140737488355328) (hnc : n ≤ c) (hc : c ≤ 9223372036854775807) (hk3 : ((n : Int) == 1) = true) :
    Calls Tryz.prog 19 #[exV 5 0 0 0 0 0 A n c, .int .i64 d] w fun e w' => e = .returned (.int .i64 cf) ∧ Below w.heap.size w w' := by
  have HC := Lib.hid coordMay_any
  have hd1 : (d == 8) = false := beq_eq_false_iff_ne.2 (by omega)
  have hw1 : IntKind.i64.wrap (d + 1) = d + 1 := by rw [IntKind.wrap_i64]; omega
  unfold exV
  have HBb : Hid (Below w.heap.size w ((w.alloc (.cells #[.int .i64 5, .int .i64 0, .int .i64 0, .int .i64 0, .int .i64 0, .int .i64 0, .slice A n c] 26)).alloc (.cells #[.int .i64 0, .int .i64 0, .int .i64 0, .int .i64 0] 23))) := Lib.hid (((Below.refl _ _).alloc (Nat.le_refl _) _).alloc (by simp) _)
  have HZb : Hid (((w.alloc (.cells #[.int .i64 5, .int .i64 0, .int .i64 0, .int .i64 0, .int .i64 0, .int .i64 0, .slice A n c] 26)).alloc (.cells #[.int .i64 0, .int .i64 0, .int .i64 0, .int .i64 0] 23)).heap.size = w.heap.size + 1 + 1) := Lib.hid (by simp)
  have HK : Hid (Blk ((w.alloc (.cells #[.int .i64 5, .int .i64 0, .int .i64 0, .int .i64 0, .int .i64 0, .int .i64 0, .slice A n c] 26)).alloc (.cells #[.int .i64 0, .int .i64 0, .int .i64 0, .int .i64 0] 23)) w.heap.size 26 #[.int .i64 5, .int .i64 0, .int .i64 0, .int .i64 0, .int .i64 0, .int .i64 0, .slice A n c]) := Lib.hid ((Blk.new w _ _).alloc _)
  go_enter Tryz.func19, Tryz.ntmps19
  go_upto_region 14 with fail
  have q1 := (HK.out.cell 1).trans rfl
  have q2 := (HK.out.cell 2).trans rfl
  have q3 := (HK.out.cell 3).trans rfl
  have q4 := (HK.out.cell 4).trans rfl
  have q5 := (HK.out.cell 5).trans rfl
  generalize (w.alloc (.cells #[.int .i64 5, .int .i64 0, .int .i64 0, .int .i64 0, .int .i64 0, .int .i64 0, .slice A n c] 26)).alloc (.cells #[.int .i64 0, .int .i64 0, .int .i64 0, .int .i64 0] 23) = Wb at *
  clear hk3 hd1
  have HL := Lib.hid (Blk.new Wb 3 #[.int .i64 0, .int .i64 0, .int .i64 0, .int .i64 0, .int .i64 0])
  have HB0 : Hid (Below w.heap.size w (Wb.alloc (.cells #[.int .i64 0, .int .i64 0, .int .i64 0, .int .i64 0, .int .i64 0] 3))) := Lib.hid (HBb.out.alloc (by have := HZb.out; omega) _)
  have HK2 := Lib.hid (HK.out.alloc (.cells #[.int .i64 0, .int .i64 0, .int .i64 0, .int .i64 0, .int .i64 0] 3))
  go_wp2_with fail
  clear q1 q2 q3 q4 q5
  generalize Wb.alloc (.cells #[.int .i64 0, .int .i64 0, .int .i64 0, .int .i64 0, .int .i64 0] 3) = W0 at *
  go_loop [83] (fun jv => ∃ j : Nat, j ≤ 5 ∧ jv = .int .i64 j ∧ Hid (∀ i, i < j → nearQ (([0, 0, 0, 0, 0] : List Int).getD i 0) = true)) (fun jv => 5 - (intOf jv).toNat)
  case atStart => exact ⟨0, by omega, rfl, Lib.hid (fun i hi => absurd hi (by omega))⟩
  case round =>
    obtain ⟨j, hj, rfl, HZn⟩ := hrel
    by_cases hj5 : j < 5
    · have t1 : decide ((j : Int) < 5) = true := decide_eq_true (by omega)
      have hlj : W0.cell? ⟨Wb.heap.size, j, none⟩ = some (.int .i64 (([0, 0, 0, 0, 0] : List Int).getD j 0)) := by
        rw [HL.out.cell]
        match j, hj5 with
        | 0, _ => rfl
        | 1, _ => rfl
        | 2, _ => rfl
        | 3, _ => rfl
        | 4, _ => rfl
      have HF2j := Lib.hid (HF2.out j hj5)
      have HNs : Hid (nearQ (([0, 0, 0, 0, 0] : List Int).getD j 0) = true → ∀ i, i < j + 1 → nearQ (([0, 0, 0, 0, 0] : List Int).getD i 0) = true) := Lib.hid fun h i hi => by
        rcases Nat.lt_succ_iff_lt_or_eq.1 hi with h' | rfl
        · exact HZn.out i h'
        · exact h
      have HCj := Lib.hid fun W => coordMay_any (([0, 0, 0, 0, 0] : List Int).getD j 0) (nearQ (([0, 0, 0, 0, 0] : List Int).getD j 0)) W (coord_near _)
      obtain ⟨b, hb⟩ : ∃ b, b = nearQ (([0, 0, 0, 0, 0] : List Int).getD j 0) := ⟨_, rfl⟩
      rw [← hb] at HF2j HNs HCj
      generalize ([0, 0, 0, 0, 0] : List Int).getD j 0 = z at hlj HCj
      have j1 : (j : Int) < 5 := by omega
      have w1 : IntKind.i64.wrap ((j : Int) + 1) = (j : Int) + 1 := by rw [IntKind.wrap_i64]; omega
      clear hb
      cases b with
      | true =>
        go_wp2_with (go_at_call 21; refine (HCj.out _).mono ?_; rintro e w2 ⟨rfl, rfl⟩)
        go_round
        case rel => exact ⟨j + 1, by omega, by go_num, Lib.hid (HNs.out trivial)⟩
        case measure => simp [intOf]; omega
      | false =>
        go_wp2_with (go_at_call 21; refine (HCj.out _).mono ?_; rintro e w2 ⟨rfl, rfl⟩)
        go_ret
        exact ⟨by rw [HF2j.out trivial]; rfl, HB0.out⟩
    · obtain rfl : j = 5 := by omega
      have HF0 := Lib.hid (HF0'.out HZn.out)
      have HF1 := Lib.hid (HF1'.out HZn.out)
      have q6 := (HK2.out.cell 6).trans rfl
      clear HF0' HF1' HF2 HZn HL HC
      go_wp2_with fail
      go_loopw [94] (fun iv wr => ∃ i : Nat, i ≤ n ∧ iv = .int .i64 i ∧ Hid (∀ j, j < i → faultN f (ps.getD j noEx) = 0) ∧ Hid (Below w.heap.size w wr)) (fun iv _ => n - (intOf iv).toNat)
      case atStart => exact ⟨0, by omega, rfl, Lib.hid (fun j hj => absurd hj (by omega)), HB0⟩
      case round =>
        obtain ⟨wo, rfl⟩ : ∃ wo : World, wo = wr := ⟨_, rfl⟩
        obtain ⟨i, hi, rfl, HZ, HB⟩ := hrel
        have hzo := HB.out.size
        by_cases hlt : i < n
        · have t1 : decide ((i : Int) < (n : Int)) = true := decide_eq_true (by omega)
          obtain ⟨b, o, rfl, hb, hpa⟩ := HP.out (by omega)
          obtain ⟨v', hat, hex⟩ := hpa i hlt
          obtain ⟨pk, px0, py0, px1, py1, pw, PA, pn, pc, rfl, c0, c1, c2, c3, c4, c5, c6⟩ := (hat.below HB.out (by omega))
          have HI := Lib.hid fun W (hb : Below wo.heap.size wo W) => HIH.out _ _ W (by have := hb.size; omega) (hex.below (((HB.out.mono hB).trans (hb.mono (by omega)))))
          have HF1i := Lib.hid (HF1.out i hlt HZ.out)
          obtain ⟨ci, hci⟩ : ∃ c, c = faultN f (ps.getD i noEx) := ⟨_, rfl⟩
          rw [← hci] at HI HF1i
          have HCi := Lib.hid hci
          unfold exV at HI
          have i1 : (i : Int) < (n : Int) := by omega
          have w1 : IntKind.i64.wrap ((i : Int) + 1) = (i : Int) + 1 := by rw [IntKind.wrap_i64]; omega
          clear hpa hat hex hci
          have HBa := Lib.hid fun o => (Below.refl wo.heap.size wo).alloc (Nat.le_refl _) o
          by_cases hc0 : ci = 0
          · obtain rfl := hc0
            go_wp2_with (go_at_call 19; refine (HI.out _ (HBa.out _)).mono ?_; rintro e w2 ⟨rfl, hb2⟩)
            go_roundw
            case rel => exact ⟨i + 1, by omega, by go_num, Lib.hid (fun j hj => by rcases Nat.lt_succ_iff_lt_or_eq.1 hj with h | rfl; exact HZ.out j h; exact HCi.out.symm), Lib.hid (HB.out.trans (((HBa.out _).mono hzo).trans (hb2.mono (by simp; omega))))⟩
            case measure => simp [intOf]; omega
          · have t2 : (ci != 0) = true := bne_iff_ne.2 hc0
            go_wp2_with (go_at_call 19; refine (HI.out _ (HBa.out _)).mono ?_; rintro e w2 ⟨rfl, hb2⟩)
            go_ret
            exact ⟨by rw [HF1i.out hc0]; rfl, HB.out.trans (((HBa.out _).mono hzo).trans (hb2.mono (by simp; omega)))⟩
        · obtain rfl : i = n := by omega
          have t1 : decide ((i : Int) < (i : Int)) = false := decide_eq_false (by omega)
          have hcz := HF0.out (fun j hj => HZ.out j hj)
          go_wp2_with fail
          go_ret
          exact ⟨by rw [hcz]; rfl, HB.out⟩
end Go.Proofs.YtlojecajonhmhaaGreatDoor

/-
  Contract of the reference's exprFault: the fault of an expression. Conditions: the expression can be read eight levels down.
-/
namespace Go.Dam.Q
open Go
open Classical in
/-- Of the form, but with a number that is too great: or fine. -/
theorem form_near {k x0 y0 x1 y1 w : Int} {n : Nat} (h : ¬ (k < 1 ∨ 5 < k)) (h2 : ¬ FormBadP k x0 y0 x1 y1 w n) : headCode k x0 y0 x1 y1 w n = (if (∀ j, j < 5 → nearQ (([x0, x1, y0, y1, w] : List Int).getD j 0) = true) then 0 else 2) := by
  by_cases h3 : (nearQ x0 && nearQ y0 && nearQ x1 && nearQ y1 && nearQ w) = true
  · rw [head0 h h2 h3, if_pos]
    simp only [Bool.and_eq_true] at h3
    intro j hj
    match j, hj with
    | 0, _ => exact h3.1.1.1.1
    | 1, _ => exact h3.1.1.2
    | 2, _ => exact h3.1.1.1.2
    | 3, _ => exact h3.1.2
    | 4, _ => exact h3.2
  · rw [head2 h h2 (by simpa using h3), if_neg]
    intro ha
    apply h3
    simp only [Bool.and_eq_true]
    exact ⟨⟨⟨⟨ha 0 (by omega), ha 2 (by omega)⟩, ha 1 (by omega)⟩, ha 3 (by omega)⟩, ha 4 (by omega)⟩
end Go.Dam.Q
namespace Go.Proofs.YtlojecajonhmhaaGreatDoor
open Go Go.RowKit Go.Dam Go.Dam.Q
set_option linter.unusedVariables false
theorem refFault_any : ∀ (f : Nat) (x : Ex) (v : Value) (w : World) (B : Nat) (d : Int), d = 8 - (f : Int) → f ≤ 8 → B ≤ w.heap.size → IsEx w B f v x →
    Calls Tryz.prog 19 #[v, .int .i64 d] w fun e w' => e = .returned (.int .i64 (faultN f x)) ∧ Below w.heap.size w w'
  | 0, x, v, w, B, d, hd, _, hB, h => by
    obtain rfl : d = 8 := by omega
    exact refFault_deep x v w B h
  | f + 1, .mk k x0 y0 x1 y1 ww ps, v, w, B, d, hd, hf, hB, h => by
    have HIH := Lib.hid fun x v w hB h => refFault_any f x v w B (d + 1) (by omega) (by omega) hB h
    obtain ⟨A, c, rfl, hn, hnc, hc, hp⟩ := h.open_
    by_cases hbad : k < 1 ∨ 5 < k ∨ FormBadP k x0 y0 x1 y1 ww ps.length
    · have hne : headCode k x0 y0 x1 y1 ww ps.length ≠ 0 := by
        by_cases h1 : k < 1 ∨ 5 < k
        · rw [head3 h1]; decide
        · rw [head4 h1 (by rcases hbad with h | h | h; exact absurd (.inl h) h1; exact absurd (.inr h) h1; exact h)]; decide
      rw [faultN_head hne]
      exact refFault_head k x0 y0 x1 y1 ww A ps.length c d w hn (by omega) hbad
    have hk1 : ¬ (k < 1 ∨ 5 < k) := fun h => hbad (by rcases h with h | h; exact .inl h; exact .inr (.inl h))
    have hfb : ¬ FormBadP k x0 y0 x1 y1 ww ps.length := fun h => hbad (.inr (.inr h))
    have hfn := form_near hk1 hfb
    have HF2 := Lib.hid fun (j : Nat) (hj : j < 5) (hz : nearQ (([x0, x1, y0, y1, ww] : List Int).getD j 0) = false) => (show faultN (f + 1) (.mk k x0 y0 x1 y1 ww ps) = 2 by
      have e2 : headCode k x0 y0 x1 y1 ww ps.length = 2 := by rw [hfn, if_neg (fun ha => by have := ha j hj; rw [hz] at this; cases this)]
      rw [faultN_head (by rw [e2]; decide), e2])
    have HF0 := Lib.hid fun (ha : ∀ j, j < 5 → nearQ (([x0, x1, y0, y1, ww] : List Int).getD j 0) = true) => faultN_fine (f := f) (ps := ps) (show headCode k x0 y0 x1 y1 ww ps.length = 0 by rw [hfn, if_pos ha])
    have HF1 := Lib.hid fun (ha : ∀ j, j < 5 → nearQ (([x0, x1, y0, y1, ww] : List Int).getD j 0) = true) i => faultN_part (f := f) (ps := ps) (i := i) (show headCode k x0 y0 x1 y1 ww ps.length = 0 by rw [hfn, if_pos ha])
    have HP := Lib.hid hp
    have hd3 : d < 8 := by omega
    have hd4 : 0 ≤ d := by omega
    unfold FormBadP at hfb
    rcases (show k = 1 ∨ k = 2 ∨ k = 3 ∨ k = 4 ∨ k = 5 by omega) with e | e | e | e | e
    · obtain rfl := e
      have h1 : ps.length = 0 := by omega
      obtain rfl : ww = 0 := by omega
      exact refFault_k1 f x0 y0 x1 y1 ps w B d A _ c hd3 hd4 hB HIH HP _ HF2 HF0 HF1 hn hnc hc (by rw [h1]; rfl)
    · obtain rfl := e
      have h1 : ps.length = 0 := by omega
      obtain ⟨rfl, rfl, rfl, rfl⟩ : x0 = 0 ∧ y0 = 0 ∧ x1 = 0 ∧ y1 = 0 := by omega
      exact refFault_k2 f ww ps w B d A _ c hd3 hd4 hB HIH HP _ HF2 HF0 HF1 hn hnc hc (by rw [h1]; rfl)
    · obtain rfl := e
      obtain rfl : ww = 0 := by omega
      obtain ⟨rfl, rfl, rfl, rfl⟩ : x0 = 0 ∧ y0 = 0 ∧ x1 = 0 ∧ y1 = 0 := by omega
      exact refFault_k3 f ps w B d A _ c hd3 hd4 hB HIH HP _ HF2 HF0 HF1 hn hnc hc (decide_eq_true (by omega))
    · obtain rfl := e
      obtain rfl : ww = 0 := by omega
      obtain ⟨rfl, rfl, rfl, rfl⟩ : x0 = 0 ∧ y0 = 0 ∧ x1 = 0 ∧ y1 = 0 := by omega
      exact refFault_k4 f ps w B d A _ c hd3 hd4 hB HIH HP _ HF2 HF0 HF1 hn hnc hc (decide_eq_true (by omega))
    · obtain rfl := e
      have h1 : ps.length = 1 := by omega
      obtain rfl : ww = 0 := by omega
      obtain ⟨rfl, rfl, rfl, rfl⟩ : x0 = 0 ∧ y0 = 0 ∧ x1 = 0 ∧ y1 = 0 := by omega
      exact refFault_k5 f ps w B d A _ c hd3 hd4 hB HIH HP _ HF2 HF0 HF1 hn hnc hc (by rw [h1]; rfl)
end Go.Proofs.YtlojecajonhmhaaGreatDoor
