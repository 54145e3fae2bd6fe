/-
  Texts of one claim behind each other. Conditions: none of its own.
-/
import Derived.Test.YtlojecajonhmhaaGreatDoorMQueryEvals39
set_option linter.unusedVariables false
set_option linter.unusedSimpArgs false
/-
  Contract of query.fault at a fine expression of kind 1, its parts' faults known. Conditions: as the fault's.
-/
namespace Go.Proofs.YtlojecajonhmhaaGreatDoor
open Go Go.RowKit Go.Dam Go.Dam.Q
set_option linter.unusedVariables false
set_option maxRecDepth 100000 in
set_option maxHeartbeats 8000000 in
theorem queryFault_k1 (f : Nat) (x0 y0 x1 y1 : Int) (ps : List Ex) (w : World) (B : Nat) (d : Int) (A : Option Addr) (n c : Nat) (hd3 : d < 8) (hd4 : 0 ≤ d) (hB : B ≤ w.heap.size)
    (HIH : Hid (∀ (x : Ex) (v : Value) (W : World), B ≤ W.heap.size → IsEx W B f v x → Calls Tryz.prog 13 #[v, .int .i64 (d + 1)] W fun e w' => e = .returned (.int .i64 (faultN f x)) ∧ Below W.heap.size W w'))
    (HP : Hid (0 < n → ∃ b o, A = some ⟨b, o, none⟩ ∧ b < B ∧ ∀ i, i < n → ∃ v', ExAt w b (o + i * 7) v' ∧ IsEx w B f v' (ps.getD i noEx)))
    (cf : Int) (HF0 : Hid ((∀ j, j < n → faultN f (ps.getD j noEx) = 0) → cf = 0)) (HF1 : Hid (∀ i, i < n → (∀ j, j < i → faultN f (ps.getD j noEx) = 0) → faultN f (ps.getD i noEx) ≠ 0 → cf = faultN f (ps.getD i noEx)))
    (hn : n ≤ 140737488355328) (hnc : n ≤ c) (hc : c ≤ 9223372036854775807) (n0 : nearQ x0 = true) (n1 : nearQ y0 = true) (n2 : nearQ x1 = true) (n3 : nearQ y1 = true) (hk3 : ¬ 0 < n) :
    Calls Tryz.prog 13 #[exV 1 x0 y0 x1 y1 0 A n c, .int .i64 d] w fun e w' => e = .returned (.int .i64 cf) ∧ Below w.heap.size w w' := by
  have HN := Lib.hid queryNear_any
  have nz : nearQ 0 = true := rfl
  have hd1 : ¬ (8 : Int) ≤ d := by omega
  have hd2 : decide ((8 : Int) ≤ d) = false := decide_eq_false hd1
  have hw1 : IntKind.i64.wrap (d + 1) = d + 1 := by rw [IntKind.wrap_i64]; omega
  clear hd1
  unfold exV
  have HB0 : Hid (Below w.heap.size w ((w.alloc (.cells #[.int .i64 1, .int .i64 x0, .int .i64 y0, .int .i64 x1, .int .i64 y1, .int .i64 0, .slice A n c] 26)).alloc (.cells #[.int .i64 x0, .int .i64 y0, .int .i64 x1, .int .i64 y1] 23))) := Lib.hid (((Below.refl _ _).alloc (Nat.le_refl _) _).alloc (by simp) _)
  go_enter Tryz.func13, Tryz.ntmps13
  go_upto_region 16 with (go_at_call 23; refine (HN.out _ _).mono ?_; rintro e w1 ⟨rfl, rfl⟩)
  have k6 : ((w.alloc (.cells #[.int .i64 1, .int .i64 x0, .int .i64 y0, .int .i64 x1, .int .i64 y1, .int .i64 0, .slice A n c] 26)).alloc (.cells #[.int .i64 x0, .int .i64 y0, .int .i64 x1, .int .i64 y1] 23)).cell? ⟨w.heap.size, 6, none⟩ = some (.slice A n c) := (((Blk.new w 26 #[.int .i64 1, .int .i64 x0, .int .i64 y0, .int .i64 x1, .int .i64 y1, .int .i64 0, .slice A n c]).alloc _).cell 6).trans rfl
  generalize (w.alloc (.cells #[.int .i64 1, .int .i64 x0, .int .i64 y0, .int .i64 x1, .int .i64 y1, .int .i64 0, .slice A n c] 26)).alloc (.cells #[.int .i64 x0, .int .i64 y0, .int .i64 x1, .int .i64 y1] 23) = W0 at *
  clear hk3 hd2 nz
  go_wp2_with fail
  go_loopw [103] (fun iv wr => ∃ i : Nat, i ≤ n ∧ iv = .int .i64 i ∧ Hid (∀ j, j < i → faultN f (ps.getD j noEx) = 0) ∧ Hid (Below w.heap.size w wr)) (fun iv _ => n - (intOf iv).toNat)
  case atStart => exact ⟨0, by omega, rfl, Lib.hid (fun j hj => absurd hj (by omega)), HB0⟩
  case round =>
    obtain ⟨wo, rfl⟩ : ∃ wo : World, wo = wr := ⟨_, rfl⟩
    obtain ⟨i, hi, rfl, HZ, HB⟩ := hrel
    have hzo := HB.out.size
    by_cases hlt : i < n
    · have t1 : decide ((i : Int) < (n : Int)) = true := decide_eq_true (by omega)
      obtain ⟨b, o, rfl, hb, hpa⟩ := HP.out (by omega)
      obtain ⟨v', hat, hex⟩ := hpa i hlt
      obtain ⟨pk, px0, py0, px1, py1, pw, PA, pn, pc, rfl, c0, c1, c2, c3, c4, c5, c6⟩ := (hat.below HB.out (by omega))
      have HI := Lib.hid fun W (hb : Below wo.heap.size wo W) => HIH.out _ _ W (by have := hb.size; omega) (hex.below (((HB.out.mono hB).trans (hb.mono (by omega)))))
      have HF1i := Lib.hid (HF1.out i hlt HZ.out)
      obtain ⟨ci, hci⟩ : ∃ c, c = faultN f (ps.getD i noEx) := ⟨_, rfl⟩
      rw [← hci] at HI HF1i
      have HCi := Lib.hid hci
      unfold exV at HI
      have i1 : (i : Int) < (n : Int) := by omega
      have w1 : IntKind.i64.wrap ((i : Int) + 1) = (i : Int) + 1 := by rw [IntKind.wrap_i64]; omega
      clear hpa hat hex hci
      have HBa := Lib.hid fun o => (Below.refl wo.heap.size wo).alloc (Nat.le_refl _) o
      by_cases hc0 : ci = 0
      · obtain rfl := hc0
        go_wp2_with (go_at_call 13; refine (HI.out _ (HBa.out _)).mono ?_; rintro e w2 ⟨rfl, hb2⟩)
        go_roundw
        case rel => exact ⟨i + 1, by omega, by go_num, Lib.hid (fun j hj => by rcases Nat.lt_succ_iff_lt_or_eq.1 hj with h | rfl; exact HZ.out j h; exact HCi.out.symm), Lib.hid (HB.out.trans (((HBa.out _).mono hzo).trans (hb2.mono (by simp; omega))))⟩
        case measure => simp [intOf]; omega
      · have t2 : (ci != 0) = true := bne_iff_ne.2 hc0
        go_wp2_with (go_at_call 13; refine (HI.out _ (HBa.out _)).mono ?_; rintro e w2 ⟨rfl, hb2⟩)
        go_ret
        exact ⟨by rw [HF1i.out hc0]; rfl, HB.out.trans (((HBa.out _).mono hzo).trans (hb2.mono (by simp; omega)))⟩
    · obtain rfl : i = n := by omega
      have t1 : decide ((i : Int) < (i : Int)) = false := decide_eq_false (by omega)
      have hcz := HF0.out (fun j hj => HZ.out j hj)
      go_wp2_with fail
      go_ret
      exact ⟨by rw [hcz]; rfl, HB.out⟩
end Go.Proofs.YtlojecajonhmhaaGreatDoor

/-
  Contract of query.fault at a fine expression of kind 2, its parts' faults known. Conditions: as the fault's.
-/
namespace Go.Proofs.YtlojecajonhmhaaGreatDoor
open Go Go.RowKit Go.Dam Go.Dam.Q
set_option linter.unusedVariables false
set_option maxRecDepth 100000 in
set_option maxHeartbeats 8000000 in
theorem queryFault_k2 (f : Nat) (ww : Int) (ps : List Ex) (w : World) (B : Nat) (d : Int) (A : Option Addr) (n c : Nat) (hd3 : d < 8) (hd4 : 0 ≤ d) (hB : B ≤ w.heap.size)
    (HIH : Hid (∀ (x : Ex) (v : Value) (W : World), B ≤ W.heap.size → IsEx W B f v x → Calls Tryz.prog 13 #[v, .int .i64 (d + 1)] W fun e w' => e = .returned (.int .i64 (faultN f x)) ∧ Below W.heap.size W w'))
    (HP : Hid (0 < n → ∃ b o, A = some ⟨b, o, none⟩ ∧ b < B ∧ ∀ i, i < n → ∃ v', ExAt w b (o + i * 7) v' ∧ IsEx w B f v' (ps.getD i noEx)))
    (cf : Int) (HF0 : Hid ((∀ j, j < n → faultN f (ps.getD j noEx) = 0) → cf = 0)) (HF1 : Hid (∀ i, i < n → (∀ j, j < i → faultN f (ps.getD j noEx) = 0) → faultN f (ps.getD i noEx) ≠ 0 → cf = faultN f (ps.getD i noEx)))
    (hn : n ≤ 140737488355328) (hnc : n ≤ c) (hc : c ≤ 9223372036854775807) (n4 : nearQ ww = true) (hk3 : ¬ 0 < n) :
    Calls Tryz.prog 13 #[exV 2 0 0 0 0 ww A n c, .int .i64 d] w fun e w' => e = .returned (.int .i64 cf) ∧ Below w.heap.size w w' := by
  have HN := Lib.hid queryNear_any
  have nz : nearQ 0 = true := rfl
  have hd1 : ¬ (8 : Int) ≤ d := by omega
  have hd2 : decide ((8 : Int) ≤ d) = false := decide_eq_false hd1
  have hw1 : IntKind.i64.wrap (d + 1) = d + 1 := by rw [IntKind.wrap_i64]; omega
  clear hd1
  unfold exV
  have HB0 : Hid (Below w.heap.size w ((w.alloc (.cells #[.int .i64 2, .int .i64 0, .int .i64 0, .int .i64 0, .int .i64 0, .int .i64 ww, .slice A n c] 26)).alloc (.cells #[.int .i64 0, .int .i64 0, .int .i64 0, .int .i64 0] 23))) := Lib.hid (((Below.refl _ _).alloc (Nat.le_refl _) _).alloc (by simp) _)
  go_enter Tryz.func13, Tryz.ntmps13
  go_upto_region 16 with (go_at_call 23; refine (HN.out _ _).mono ?_; rintro e w1 ⟨rfl, rfl⟩)
  have k6 : ((w.alloc (.cells #[.int .i64 2, .int .i64 0, .int .i64 0, .int .i64 0, .int .i64 0, .int .i64 ww, .slice A n c] 26)).alloc (.cells #[.int .i64 0, .int .i64 0, .int .i64 0, .int .i64 0] 23)).cell? ⟨w.heap.size, 6, none⟩ = some (.slice A n c) := (((Blk.new w 26 #[.int .i64 2, .int .i64 0, .int .i64 0, .int .i64 0, .int .i64 0, .int .i64 ww, .slice A n c]).alloc _).cell 6).trans rfl
  generalize (w.alloc (.cells #[.int .i64 2, .int .i64 0, .int .i64 0, .int .i64 0, .int .i64 0, .int .i64 ww, .slice A n c] 26)).alloc (.cells #[.int .i64 0, .int .i64 0, .int .i64 0, .int .i64 0] 23) = W0 at *
  clear hk3 hd2 nz
  go_wp2_with fail
  go_loopw [103] (fun iv wr => ∃ i : Nat, i ≤ n ∧ iv = .int .i64 i ∧ Hid (∀ j, j < i → faultN f (ps.getD j noEx) = 0) ∧ Hid (Below w.heap.size w wr)) (fun iv _ => n - (intOf iv).toNat)
  case atStart => exact ⟨0, by omega, rfl, Lib.hid (fun j hj => absurd hj (by omega)), HB0⟩
  case round =>
    obtain ⟨wo, rfl⟩ : ∃ wo : World, wo = wr := ⟨_, rfl⟩
    obtain ⟨i, hi, rfl, HZ, HB⟩ := hrel
    have hzo := HB.out.size
    by_cases hlt : i < n
    · have t1 : decide ((i : Int) < (n : Int)) = true := decide_eq_true (by omega)
      obtain ⟨b, o, rfl, hb, hpa⟩ := HP.out (by omega)
      obtain ⟨v', hat, hex⟩ := hpa i hlt
      obtain ⟨pk, px0, py0, px1, py1, pw, PA, pn, pc, rfl, c0, c1, c2, c3, c4, c5, c6⟩ := (hat.below HB.out (by omega))
      have HI := Lib.hid fun W (hb : Below wo.heap.size wo W) => HIH.out _ _ W (by have := hb.size; omega) (hex.below (((HB.out.mono hB).trans (hb.mono (by omega)))))
      have HF1i := Lib.hid (HF1.out i hlt HZ.out)
      obtain ⟨ci, hci⟩ : ∃ c, c = faultN f (ps.getD i noEx) := ⟨_, rfl⟩
      rw [← hci] at HI HF1i
      have HCi := Lib.hid hci
      unfold exV at HI
      have i1 : (i : Int) < (n : Int) := by omega
      have w1 : IntKind.i64.wrap ((i : Int) + 1) = (i : Int) + 1 := by rw [IntKind.wrap_i64]; omega
      clear hpa hat hex hci
      have HBa := Lib.hid fun o => (Below.refl wo.heap.size wo).alloc (Nat.le_refl _) o
      by_cases hc0 : ci = 0
      · obtain rfl := hc0
        go_wp2_with (go_at_call 13; refine (HI.out _ (HBa.out _)).mono ?_; rintro e w2 ⟨rfl, hb2⟩)
        go_roundw
        case rel => exact ⟨i + 1, by omega, by go_num, Lib.hid (fun j hj => by rcases Nat.lt_succ_iff_lt_or_eq.1 hj with h | rfl; exact HZ.out j h; exact HCi.out.symm), Lib.hid (HB.out.trans (((HBa.out _).mono hzo).trans (hb2.mono (by simp; omega))))⟩
        case measure => simp [intOf]; omega
      · have t2 : (ci != 0) = true := bne_iff_ne.2 hc0
        go_wp2_with (go_at_call 13; refine (HI.out _ (HBa.out _)).mono ?_; rintro e w2 ⟨rfl, hb2⟩)
        go_ret
        exact ⟨by rw [HF1i.out hc0]; rfl, HB.out.trans (((HBa.out _).mono hzo).trans (hb2.mono (by simp; omega)))⟩
    · obtain rfl : i = n := by omega
      have t1 : decide ((i : Int) < (i : Int)) = false := decide_eq_false (by omega)
      have hcz := HF0.out (fun j hj => HZ.out j hj)
      go_wp2_with fail
      go_ret
      exact ⟨by rw [hcz]; rfl, HB.out⟩
end Go.Proofs.YtlojecajonhmhaaGreatDoor

/-
  Contract of query.fault at a fine expression of kind 3, its parts' faults known. Conditions: as the fault's.
-/
namespace Go.Proofs.YtlojecajonhmhaaGreatDoor
open Go Go.RowKit Go.Dam Go.Dam.Q
set_option linter.unusedVariables false
set_option maxRecDepth 100000 in
set_option maxHeartbeats 8000000 in
theorem queryFault_k3 (f : Nat) (ps : List Ex) (w : World) (B : Nat) (d : Int) (A : Option Addr) (n c : Nat) (hd3 : d < 8) (hd4 : 0 ≤ d) (hB : B ≤ w.heap.size)
    (HIH : Hid (∀ (x : Ex) (v : Value) (W : World), B ≤ W.heap.size → IsEx W B f v x → Calls Tryz.prog 13 #[v, .int .i64 (d + 1)] W fun e w' => e = .returned (.int .i64 (faultN f x)) ∧ Below W.heap.size W w'))
    (HP : Hid (0 < n → ∃ b o, A = some ⟨b, o, none⟩ ∧ b < B ∧ ∀ i, i < n → ∃ v', ExAt w b (o + i * 7) v' ∧ IsEx w B f v' (ps.getD i noEx)))
    (cf : Int) (HF0 : Hid ((∀ j, j < n → faultN f (ps.getD j noEx) = 0) → cf = 0)) (HF1 : Hid (∀ i, i < n → (∀ j, j < i → faultN f (ps.getD j noEx) = 0) → faultN f (ps.getD i noEx) ≠ 0 → cf = faultN f (ps.getD i noEx)))
    (hn : n ≤ 140737488355328) (hnc : n ≤ c) (hc : c ≤ 9223372036854775807)  (hk3 : decide ((n : Int) < 2) = false) :
    Calls Tryz.prog 13 #[exV 3 0 0 0 0 0 A n c, .int .i64 d] w fun e w' => e = .returned (.int .i64 cf) ∧ Below w.heap.size w w' := by
  have HN := Lib.hid queryNear_any
  have nz : nearQ 0 = true := rfl
  have hd1 : ¬ (8 : Int) ≤ d := by omega
  have hd2 : decide ((8 : Int) ≤ d) = false := decide_eq_false hd1
  have hw1 : IntKind.i64.wrap (d + 1) = d + 1 := by rw [IntKind.wrap_i64]; omega
  clear hd1
  unfold exV
  have HB0 : Hid (Below w.heap.size w ((w.alloc (.cells #[.int .i64 3, .int .i64 0, .int .i64 0, .int .i64 0, .int .i64 0, .int .i64 0, .slice A n c] 26)).alloc (.cells #[.int .i64 0, .int .i64 0, .int .i64 0, .int .i64 0] 23))) := Lib.hid (((Below.refl _ _).alloc (Nat.le_refl _) _).alloc (by simp) _)
  go_enter Tryz.func13, Tryz.ntmps13
  go_upto_region 16 with (go_at_call 23; refine (HN.out _ _).mono ?_; rintro e w1 ⟨rfl, rfl⟩)
  have k6 : ((w.alloc (.cells #[.int .i64 3, .int .i64 0, .int .i64 0, .int .i64 0, .int .i64 0, .int .i64 0, .slice A n c] 26)).alloc (.cells #[.int .i64 0, .int .i64 0, .int .i64 0, .int .i64 0] 23)).cell? ⟨w.heap.size, 6, none⟩ = some (.slice A n c) := (((Blk.new w 26 #[.int .i64 3, .int .i64 0, .int .i64 0, .int .i64 0, .int .i64 0, .int .i64 0, .slice A n c]).alloc _).cell 6).trans rfl
  generalize (w.alloc (.cells #[.int .i64 3, .int .i64 0, .int .i64 0, .int .i64 0, .int .i64 0, .int .i64 0, .slice A n c] 26)).alloc (.cells #[.int .i64 0, .int .i64 0, .int .i64 0, .int .i64 0] 23) = W0 at *
  clear hk3 hd2 nz
  go_wp2_with fail
  go_loopw [103] (fun iv wr => ∃ i : Nat, i ≤ n ∧ iv = .int .i64 i ∧ Hid (∀ j, j < i → faultN f (ps.getD j noEx) = 0) ∧ Hid (Below w.heap.size w wr)) (fun iv _ => n - (intOf iv).toNat)
  case atStart => exact ⟨0, by omega, rfl, Lib.hid (fun j hj => absurd hj (by omega)), HB0⟩
  case round =>
    obtain ⟨wo, rfl⟩ : ∃ wo : World, wo = wr := ⟨_, rfl⟩
    obtain ⟨i, hi, rfl, HZ, HB⟩ := hrel
    have hzo := HB.out.size
    by_cases hlt : i < n
    · have t1 : decide ((i : Int) < (n : Int)) = true := decide_eq_true (by omega)
      obtain ⟨b, o, rfl, hb, hpa⟩ := HP.out (by omega)
      obtain ⟨v', hat, hex⟩ := hpa i hlt
      obtain ⟨pk, px0, py0, px1, py1, pw, PA, pn, pc, rfl, c0, c1, c2, c3, c4, c5, c6⟩ := (hat.below HB.out (by omega))
      have HI := Lib.hid fun W (hb : Below wo.heap.size wo W) => HIH.out _ _ W (by have := hb.size; omega) (hex.below (((HB.out.mono hB).trans (hb.mono (by omega)))))
      have HF1i := Lib.hid (HF1.out i hlt HZ.out)
      obtain ⟨ci, hci⟩ : ∃ c, c = faultN f (ps.getD i noEx) := ⟨_, rfl⟩
      rw [← hci] at HI HF1i
      have HCi := Lib.hid hci
      unfold exV at HI
      have i1 : (i : Int) < (n : Int) := by omega
      have w1 : IntKind.i64.wrap ((i : Int) + 1) = (i : Int) + 1 := by rw [IntKind.wrap_i64]; omega
      clear hpa hat hex hci
      have HBa := Lib.hid fun o => (Below.refl wo.heap.size wo).alloc (Nat.le_refl _) o
      by_cases hc0 : ci = 0
      · obtain rfl := hc0
        go_wp2_with (go_at_call 13; refine (HI.out _ (HBa.out _)).mono ?_; rintro e w2 ⟨rfl, hb2⟩)
        go_roundw
        case rel => exact ⟨i + 1, by omega, by go_num, Lib.hid (fun j hj => by rcases Nat.lt_succ_iff_lt_or_eq.1 hj with h | rfl; exact HZ.out j h; exact HCi.out.symm), Lib.hid (HB.out.trans (((HBa.out _).mono hzo).trans (hb2.mono (by simp; omega))))⟩
        case measure => simp [intOf]; omega
      · have t2 : (ci != 0) = true := bne_iff_ne.2 hc0
        go_wp2_with (go_at_call 13; refine (HI.out _ (HBa.out _)).mono ?_; rintro e w2 ⟨rfl, hb2⟩)
        go_ret
        exact ⟨by rw [HF1i.out hc0]; rfl, HB.out.trans (((HBa.out _).mono hzo).trans (hb2.mono (by simp; omega)))⟩
    · obtain rfl : i = n := by omega
      have t1 : decide ((i : Int) < (i : Int)) = false := decide_eq_false (by omega)
      have hcz := HF0.out (fun j hj => HZ.out j hj)
      go_wp2_with fail
      go_ret
      exact ⟨by rw [hcz]; rfl, HB.out⟩
end Go.Proofs.YtlojecajonhmhaaGreatDoor

/-
  Contract of query.fault at a fine expression of kind 4, its parts' faults known. Conditions: as the fault's.
-/
namespace Go.Proofs.YtlojecajonhmhaaGreatDoor
open Go Go.RowKit Go.Dam Go.Dam.Q
set_option linter.unusedVariables false
set_option maxRecDepth 100000 in
set_option maxHeartbeats 8000000 in
theorem queryFault_k4 (f : Nat) (ps : List Ex) (w : World) (B : Nat) (d : Int) (A : Option Addr) (n c : Nat) (hd3 : d < 8) (hd4 : 0 ≤ d) (hB : B ≤ w.heap.size)
    (HIH : Hid (∀ (x : Ex) (v : Value) (W : World), B ≤ W.heap.size → IsEx W B f v x → Calls Tryz.prog 13 #[v, .int .i64 (d + 1)] W fun e w' => e = .returned (.int .i64 (faultN f x)) ∧ Below W.heap.size W w'))
    (HP : Hid (0 < n → ∃ b o, A = some ⟨b, o, none⟩ ∧ b < B ∧ ∀ i, i < n → ∃ v', ExAt w b (o + i * 7) v' ∧ IsEx w B f v' (ps.getD i noEx)))
    (cf : Int) (HF0 : Hid ((∀ j, j < n → faultN f (ps.getD j noEx) = 0) → cf = 0)) (HF1 : Hid (∀ i, i < n → (∀ j, j < i → faultN f (ps.getD j noEx) = 0) → faultN f (ps.getD i noEx) ≠ 0 → cf = faultN f (ps.getD i noEx)))
    (hn : n ≤ 140737488355328) (hnc : n ≤ c) (hc : c ≤ 9223372036854775807)  (hk3 : decide ((n : Int) < 2) = false) :
    Calls Tryz.prog 13 #[exV 4 0 0 0 0 0 A n c, .int .i64 d] w fun e w' => e = .returned (.int .i64 cf) ∧ Below w.heap.size w w' := by
  have HN := Lib.hid queryNear_any
  have nz : nearQ 0 = true := rfl
  have hd1 : ¬ (8 : Int) ≤ d := by omega
  have hd2 : decide ((8 : Int) ≤ d) = false := decide_eq_false hd1
  have hw1 : IntKind.i64.wrap (d + 1) = d + 1 := by rw [IntKind.wrap_i64]; omega
  clear hd1
  unfold exV
  have HB0 : Hid (Below w.heap.size w ((w.alloc (.cells #[.int .i64 4, .int .i64 0, .int .i64 0, .int .i64 0, .int .i64 0, .int .i64 0, .slice A n c] 26)).alloc (.cells #[.int .i64 0, .int .i64 0, .int .i64 0, .int .i64 0] 23))) := Lib.hid (((Below.refl _ _).alloc (Nat.le_refl _) _).alloc (by simp) _)
  go_enter Tryz.func13, Tryz.ntmps13
  go_upto_region 16 with (go_at_call 23; refine (HN.out _ _).mono ?_; rintro e w1 ⟨rfl, rfl⟩)
  have k6 : ((w.alloc (.cells #[.int .i64 4, .int .i64 0, .int .i64 0, .int .i64 0, .int .i64 0, .int .i64 0, .slice A n c] 26)).alloc (.cells #[.int .i64 0, .int .i64 0, .int .i64 0, .int .i64 0] 23)).cell? ⟨w.heap.size, 6, none⟩ = some (.slice A n c) := (((Blk.new w 26 #[.int .i64 4, .int .i64 0, .int .i64 0, .int .i64 0, .int .i64 0, .int .i64 0, .slice A n c]).alloc _).cell 6).trans rfl
  generalize (w.alloc (.cells #[.int .i64 4, .int .i64 0, .int .i64 0, .int .i64 0, .int .i64 0, .int .i64 0, .slice A n c] 26)).alloc (.cells #[.int .i64 0, .int .i64 0, .int .i64 0, .int .i64 0] 23) = W0 at *
  clear hk3 hd2 nz
  go_wp2_with fail
  go_loopw [103] (fun iv wr => ∃ i : Nat, i ≤ n ∧ iv = .int .i64 i ∧ Hid (∀ j, j < i → faultN f (ps.getD j noEx) = 0) ∧ Hid (Below w.heap.size w wr)) (fun iv _ => n - (intOf iv).toNat)
  case atStart => exact ⟨0, by omega, rfl, Lib.hid (fun j hj => absurd hj (by omega)), HB0⟩
  case round =>
    obtain ⟨wo, rfl⟩ : ∃ wo : World, wo = wr := ⟨_, rfl⟩
    obtain ⟨i, hi, rfl, HZ, HB⟩ := hrel
    have hzo := HB.out.size
    by_cases hlt : i < n
    · have t1 : decide ((i : Int) < (n : Int)) = true := decide_eq_true (by omega)
      obtain ⟨b, o, rfl, hb, hpa⟩ := HP.out (by omega)
      obtain ⟨v', hat, hex⟩ := hpa i hlt
      obtain ⟨pk, px0, py0, px1, py1, pw, PA, pn, pc, rfl, c0, c1, c2, c3, c4, c5, c6⟩ := (hat.below HB.out (by omega))
      have HI := Lib.hid fun W (hb : Below wo.heap.size wo W) => HIH.out _ _ W (by have := hb.size; omega) (hex.below (((HB.out.mono hB).trans (hb.mono (by omega)))))
      have HF1i := Lib.hid (HF1.out i hlt HZ.out)
      obtain ⟨ci, hci⟩ : ∃ c, c = faultN f (ps.getD i noEx) := ⟨_, rfl⟩
      rw [← hci] at HI HF1i
      have HCi := Lib.hid hci
      unfold exV at HI
      have i1 : (i : Int) < (n : Int) := by omega
      have w1 : IntKind.i64.wrap ((i : Int) + 1) = (i : Int) + 1 := by rw [IntKind.wrap_i64]; omega
      clear hpa hat hex hci
      have HBa := Lib.hid fun o => (Below.refl wo.heap.size wo).alloc (Nat.le_refl _) o
      by_cases hc0 : ci = 0
      · obtain rfl := hc0
        go_wp2_with (go_at_call 13; refine (HI.out _ (HBa.out _)).mono ?_; rintro e w2 ⟨rfl, hb2⟩)
        go_roundw
        case rel => exact ⟨i + 1, by omega, by go_num, Lib.hid (fun j hj => by rcases Nat.lt_succ_iff_lt_or_eq.1 hj with h | rfl; exact HZ.out j h; exact HCi.out.symm), Lib.hid (HB.out.trans (((HBa.out _).mono hzo).trans (hb2.mono (by simp; omega))))⟩
        case measure => simp [intOf]; omega
      · have t2 : (ci != 0) = true := bne_iff_ne.2 hc0
        go_wp2_with (go_at_call 13; refine (HI.out _ (HBa.out _)).mono ?_; rintro e w2 ⟨rfl, hb2⟩)
        go_ret
        exact ⟨by rw [HF1i.out hc0]; rfl, HB.out.trans (((HBa.out _).mono hzo).trans (hb2.mono (by simp; omega)))⟩
    · obtain rfl : i = n := by omega
      have t1 : decide ((i : Int) < (i : Int)) = false := decide_eq_false (by omega)
      have hcz := HF0.out (fun j hj => HZ.out j hj)
      go_wp2_with fail
      go_ret
      exact ⟨by rw [hcz]; rfl, HB.out⟩
end Go.Proofs.YtlojecajonhmhaaGreatDoor

/-
  Contract of query.fault at a fine expression of kind 5, its parts' faults known. Conditions: as the fault's.
-/
namespace Go.Proofs.YtlojecajonhmhaaGreatDoor
open Go Go.RowKit Go.Dam Go.Dam.Q
set_option linter.unusedVariables false
set_option maxRecDepth 100000 in
set_option maxHeartbeats 8000000 in
theorem queryFault_k5 (f : Nat) (ps : List Ex) (w : World) (B : Nat) (d : Int) (A : Option Addr) (n c : Nat) (hd3 : d < 8) (hd4 : 0 ≤ d) (hB : B ≤ w.heap.size)
    (HIH : Hid (∀ (x : Ex) (v : Value) (W : World), B ≤ W.heap.size → IsEx W B f v x → Calls Tryz.prog 13 #[v, .int .i64 (d + 1)] W fun e w' => e = .returned (.int .i64 (faultN f x)) ∧ Below W.heap.size W w'))
    (HP : Hid (0 < n → ∃ b o, A = some ⟨b, o, none⟩ ∧ b < B ∧ ∀ i, i < n → ∃ v', ExAt w b (o + i * 7) v' ∧ IsEx w B f v' (ps.getD i noEx)))
    (cf : Int) (HF0 : Hid ((∀ j, j < n → faultN f (ps.getD j noEx) = 0) → cf = 0)) (HF1 : Hid (∀ i, i < n → (∀ j, j < i → faultN f (ps.getD j noEx) = 0) → faultN f (ps.getD i noEx) ≠ 0 → cf = faultN f (ps.getD i noEx)))
    (hn : n ≤ 140737488355328) (hnc : n ≤ c) (hc : c ≤ 9223372036854775807)  (hk3 : ((n : Int) != 1) = false) :
    Calls Tryz.prog 13 #[exV 5 0 0 0 0 0 A n c, .int .i64 d] w fun e w' => e = .returned (.int .i64 cf) ∧ Below w.heap.size w w' := by
  have HN := Lib.hid queryNear_any
  have nz : nearQ 0 = true := rfl
  have hd1 : ¬ (8 : Int) ≤ d := by omega
  have hd2 : decide ((8 : Int) ≤ d) = false := decide_eq_false hd1
  have hw1 : IntKind.i64.wrap (d + 1) = d + 1 := by rw [IntKind.wrap_i64]; omega
  clear hd1
  unfold exV
  have HB0 : Hid (Below w.heap.size w ((w.alloc (.cells #[.int .i64 5, .int .i64 0, .int .i64 0, .int .i64 0, .int .i64 0, .int .i64 0, .slice A n c] 26)).alloc (.cells #[.int .i64 0, .int .i64 0, .int .i64 0, .int .i64 0] 23))) := Lib.hid (((Below.refl _ _).alloc (Nat.le_refl _) _).alloc (by simp) _)
  go_enter Tryz.func13, Tryz.ntmps13
  go_upto_region 16 with (go_at_call 23; refine (HN.out _ _).mono ?_; rintro e w1 ⟨rfl, rfl⟩)
  have k6 : ((w.alloc (.cells #[.int .i64 5, .int .i64 0, .int .i64 0, .int .i64 0, .int .i64 0, .int .i64 0, .slice A n c] 26)).alloc (.cells #[.int .i64 0, .int .i64 0, .int .i64 0, .int .i64 0] 23)).cell? ⟨w.heap.size, 6, none⟩ = some (.slice A n c) := (((Blk.new w 26 #[.int .i64 5, .int .i64 0, .int .i64 0, .int .i64 0, .int .i64 0, .int .i64 0, .slice A n c]).alloc _).cell 6).trans rfl
  generalize (w.alloc (.cells #[.int .i64 5, .int .i64 0, .int .i64 0, .int .i64 0, .int .i64 0, .int .i64 0, .slice A n c] 26)).alloc (.cells #[.int .i64 0, .int .i64 0, .int .i64 0, .int .i64 0] 23) = W0 at *
  clear hk3 hd2 nz
  go_wp2_with fail
  go_loopw [103] (fun iv wr => ∃ i : Nat, i ≤ n ∧ iv = .int .i64 i ∧ Hid (∀ j, j < i → faultN f (ps.getD j noEx) = 0) ∧ Hid (Below w.heap.size w wr)) (fun iv _ => n - (intOf iv).toNat)
  case atStart => exact ⟨0, by omega, rfl, Lib.hid (fun j hj => absurd hj (by omega)), HB0⟩
  case round =>
    obtain ⟨wo, rfl⟩ : ∃ wo : World, wo = wr := ⟨_, rfl⟩
    obtain ⟨i, hi, rfl, HZ, HB⟩ := hrel
    have hzo := HB.out.size
    by_cases hlt : i < n
    · have t1 : decide ((i : Int) < (n : Int)) = true := decide_eq_true (by omega)
      obtain ⟨b, o, rfl, hb, hpa⟩ := HP.out (by omega)
      obtain ⟨v', hat, hex⟩ := hpa i hlt
      obtain ⟨pk, px0, py0, px1, py1, pw, PA, pn, pc, rfl, c0, c1, c2, c3, c4, c5, c6⟩ := (hat.below HB.out (by omega))
      have HI := Lib.hid fun W (hb : Below wo.heap.size wo W) => HIH.out _ _ W (by have := hb.size; omega) (hex.below (((HB.out.mono hB).trans (hb.mono (by omega)))))
      have HF1i := Lib.hid (HF1.out i hlt HZ.out)
      obtain ⟨ci, hci⟩ : ∃ c, c = faultN f (ps.getD i noEx) := ⟨_, rfl⟩
      rw [← hci] at HI HF1i
      have HCi := Lib.hid hci
      unfold exV at HI
      have i1 : (i : Int) < (n : Int) := by omega
      have w1 : IntKind.i64.wrap ((i : Int) + 1) = (i : Int) + 1 := by rw [IntKind.wrap_i64]; omega
      clear hpa hat hex hci
      have HBa := Lib.hid fun o => (Below.refl wo.heap.size wo).alloc (Nat.le_refl _) o
      by_cases hc0 : ci = 0
      · obtain rfl := hc0
        go_wp2_with (go_at_call 13; refine (HI.out _ (HBa.out _)).mono ?_; rintro e w2 ⟨rfl, hb2⟩)
        go_roundw
        case rel => exact ⟨i + 1, by omega, by go_num, Lib.hid (fun j hj => by rcases Nat.lt_succ_iff_lt_or_eq.1 hj with h | rfl; exact HZ.out j h; exact HCi.out.symm), Lib.hid (HB.out.trans (((HBa.out _).mono hzo).trans (hb2.mono (by simp; omega))))⟩
        case measure => simp [intOf]; omega
      · have t2 : (ci != 0) = true := bne_iff_ne.2 hc0
        go_wp2_with (go_at_call 13; refine (HI.out _ (HBa.out _)).mono ?_; rintro e w2 ⟨rfl, hb2⟩)
        go_ret
        exact ⟨by rw [HF1i.out hc0]; rfl, HB.out.trans (((HBa.out _).mono hzo).trans (hb2.mono (by simp; omega)))⟩
    · obtain rfl : i = n := by omega
      have t1 : decide ((i : Int) < (i : Int)) = false := decide_eq_false (by omega)
      have hcz := HF0.out (fun j hj => HZ.out j hj)
      go_wp2_with fail
      go_ret
      exact ⟨by rw [hcz]; rfl, HB.out⟩
end Go.Proofs.YtlojecajonhmhaaGreatDoor
