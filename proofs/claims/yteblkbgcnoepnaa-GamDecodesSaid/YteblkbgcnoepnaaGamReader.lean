/-
  Contracts of the reader of codes: bit, number, next. Conditions: the reader's row may be, and its place lies within it.
-/
import Derived.Test.YteblkbgcnoepnaaGamCost
import Derived.Test.YteblkbgcnoepnaaBitsAt
import Derived.Test.YteblkbgcnoepnaaBools
import Derived.Lib.QuietBelow
namespace Go.Dam
open Go Go.RowKit
set_option linter.unusedVariables false
/-- A reader in block g: its row, its place and its fault. -/
def RdAt (T : TypeId) (w : World) (g n : Nat) (ws : List Nat) (i : Nat) (e : Int) : Prop := ∃ sv, Blk w g T #[.int .i64 n, sv, .int .i64 i, .int .i64 e] ∧ IsWords w g sv ws
theorem grown_trans {w a b : World} {row : Option Nat} (h : w.grownBy a row) (k : a.grownBy b row) : w.grownBy b row :=
  ⟨k.os.trans h.os, k.tape.trans h.tape, k.output.trans h.output, Nat.le_trans h.size k.size, fun i hi hne => (k.block i (Nat.lt_of_lt_of_le hi h.size) hne).trans (h.block i hi hne)⟩
theorem grown_below {w a : World} {row : Option Nat} (h : Below w.heap.size w a) : w.grownBy a row := ⟨h.os, h.tape, h.output, h.size, fun i hi _ => h.block i hi⟩
theorem grown_store {w a : World} {g : Nat} {p : Addr} (h : w.grownBy a (some g)) (hp : p.block = g) (v : Value) : w.grownBy (a.setCell p v) (some g) :=
  grown_trans h ⟨rfl, rfl, rfl, by simp [World.setCell], fun i hi hne => Below.heap_setCell _ _ _ _ (fun e => hne (by rw [e, hp]))⟩
theorem grown_low {w a : World} {g : Nat} (h : w.grownBy a (some g)) (hg : g ≤ w.heap.size) : Below g w a := ⟨h.os, h.tape, h.output, h.size, fun i hi => h.block i (by omega) (by simp; omega)⟩
theorem or_bit (x : Nat) (b : Bool) (hx : x < 4611686018427387904) : bits .or .i64 ((x : Int) * 2) ((b.toNat : Nat) : Int) = ((2 * x + b.toNat : Nat) : Int) := by
  have hb : b.toNat ≤ 1 := by cases b <;> decide
  have h := i64_or_nat (2 * x) b.toNat (by omega) (by omega)
  have e : 2 * x ||| b.toNat = 2 * x + b.toNat := by
    have := Nat.shiftLeft_add_eq_or_of_lt (show b.toNat < 2 ^ 1 by omega) x
    simp only [Nat.shiftLeft_eq] at this
    rw [show x * 2 ^ 1 = 2 * x from by omega] at this
    exact this.symm
  rw [e] at h
  rw [← h]; congr 1; push_cast; omega
theorem or_zero (x : Nat) (hx : x < 4611686018427387904) : bits .or .i64 ((x : Int) * 2) 0 = ((2 * x : Nat) : Int) := or_bit x false hx
theorem or_one (x : Nat) (hx : x < 4611686018427387904) : bits .or .i64 ((x : Int) * 2) 1 = ((2 * x + 1 : Nat) : Int) := or_bit x true hx
theorem bool_le (b : Bool) : b.toNat ≤ 1 := by cases b <;> decide
theorem p21 {k : Nat} (h : k ≤ 20) : 2 ^ (k + 1) ≤ 2097152 := Nat.pow_le_pow_right (n := 2) (by decide) (show k + 1 ≤ 21 by omega)
end Go.Dam
namespace Go.Proofs.Yteblkbgcnoepnaa
open Go Go.RowKit Go.Dam
set_option linter.unusedVariables false
theorem row_take (ws : List Nat) {n i k : Nat} (h : i + k < n) : ((rowBits ws n).drop i).take (k + 1) = ((rowBits ws n).drop i).take k ++ [bitAt ws (i + k)] := by
  have hl : k < ((rowBits ws n).drop i).length := by rw [List.length_drop, rowBits_length]; omega
  rw [List.take_add_one, List.getElem?_eq_getElem hl, List.getElem_drop]
  have := rowBits_get ws n (i + k) h
  rw [List.getD_eq_getElem?_getD, List.getElem?_eq_getElem (by rw [rowBits_length]; exact h)] at this
  rw [← this]; rfl
theorem row_at (ws : List Nat) {n i k : Nat} (h : i + k < n) : ((rowBits ws n).drop i).getD k false = bitAt ws (i + k) := by
  rw [List.getD_eq_getElem?_getD, List.getElem?_drop, ← List.getD_eq_getElem?_getD]
  exact rowBits_get ws n (i + k) h
set_option maxHeartbeats 400000 in
theorem gamBit_bad (w : World) (g n : Nat) (ws : List Nat) (i : Nat) (e : Int) (h : RdAt 75 w g n ws i e) (he : e ≠ 0) :
    Calls Try.prog 73 #[.pointer (some ⟨g, 0, none⟩)] w fun x w' => x = .returned (.int .i64 0) ∧ w = w' := by
  obtain ⟨sv, hB, hW⟩ := h
  have k3 : w.cell? ⟨g, 3, none⟩ = some (.int .i64 e) := by rw [hB.cell]; rfl
  have hd : (e != 0) = true := by simpa using he
  clear hB hW he
  go_enter Try.func73, Try.ntmps73
  go_wp2_with fail
  go_ret
  exact ⟨rfl, rfl⟩
set_option maxRecDepth 100000 in
set_option maxHeartbeats 400000 in
theorem gamBit_end (w : World) (g n : Nat) (ws : List Nat) (h : RdAt 75 w g n ws n 0) (hm : mayBits n ws = true) :
    Calls Try.prog 73 #[.pointer (some ⟨g, 0, none⟩)] w fun x w' => x = .returned (.int .i64 0) ∧ RdAt 75 w' g n ws n 5 ∧ w.grownBy w' (some g) := by
  obtain ⟨hm1, hm2, hm3⟩ := may_facts hm
  obtain ⟨sv, hB, hW⟩ := h
  have hg := hB.lt
  have HA := Lib.hid fun d os => Calls.regrown_of (at_any (.agg #[.int .i64 n, sv]) n n ws false 2 (Sort.grow (redrawn w d) os) g (Nat.le_trans (Nat.le_of_lt hg) (below_regrown w d os).size) ⟨sv, rfl, by unfold I64; omega, hW.below ((below_regrown w d os).mono (Nat.le_of_lt hg))⟩ (by unfold I64; omega) (.inr (.inl ⟨hm, .inr (Int.le_refl _), rfl, rfl⟩)))
  have HB := Lib.hid hB
  have HW := Lib.hid hW
  have k0 : w.cell? ⟨g, 0, none⟩ = some (.int .i64 n) := by rw [hB.cell]; rfl
  have k1 : w.cell? ⟨g, 1, none⟩ = some sv := by rw [hB.cell]; rfl
  have k2 : w.cell? ⟨g, 2, none⟩ = some (.int .i64 n) := by rw [hB.cell]; rfl
  have k3 : w.cell? ⟨g, 3, none⟩ = some (.int .i64 0) := by rw [hB.cell]; rfl
  have q0 := fun d os => cell_regrown k0 d os
  have q1 := fun d os => cell_regrown k1 d os
  have q2 := fun d os => cell_regrown k2 d os
  have q3 := fun d os => cell_regrown k3 d os
  clear hB hW hm
  go_enter Try.func73, Try.ntmps73
  go_wp2_with fail
  refine wp_region_quiet_below (by kernel_rfl) (by kernel_rfl) ?_
  repeat (quiet_step ((go_at_call 66; exact HA.out _ _)))
  refine wpQuiet_nil ?_
  intro _ hw'
  obtain ⟨⟨dq, osq⟩, hw''⟩ := hw'
  subst hw''
  have hbw := below_regrown w dq osq
  have hB1 := HB.out.below hbw hg
  have k8 : (Sort.grow (redrawn w dq) osq).cell? ⟨g, 3, none⟩ = some (.int .i64 0) := hB1.cell 3
  have f8 := hB1.frozen 3
  have hW1 := HW.out.below (hbw.mono (Nat.le_of_lt hg))
  have HB1 := Lib.hid hB1
  generalize Sort.grow (redrawn w dq) osq = w1 at *
  clear q0 q1 q2 q3 k0 k1 k2 k3 hB1
  go_wp2_with fail
  go_ret
  exact ⟨rfl, ⟨sv, HB1.out.set_ 3 _, hW1.below ((Below.refl _ _).setCell (p := ⟨g, 3, none⟩) (Nat.le_refl _) _)⟩, grown_store (grown_below hbw) rfl _⟩
set_option maxRecDepth 100000 in
set_option maxHeartbeats 400000 in
theorem gamBit_one (w : World) (g n : Nat) (ws : List Nat) (i : Nat) (h : RdAt 75 w g n ws i 0) (hm : mayBits n ws = true) (hi : i < n) :
    Calls Try.prog 73 #[.pointer (some ⟨g, 0, none⟩)] w fun x w' => x = .returned (.int .i64 ((bitAt ws i).toNat : Nat)) ∧ RdAt 75 w' g n ws (i + 1) 0 ∧ w.grownBy w' (some g) := by
  obtain ⟨hm1, hm2, hm3⟩ := may_facts hm
  obtain ⟨sv, hB, hW⟩ := h
  have hg := hB.lt
  have HA := Lib.hid fun d os => Calls.regrown_of (at_any (.agg #[.int .i64 n, sv]) n i ws (bitAt ws i) 0 (Sort.grow (redrawn w d) os) g (Nat.le_trans (Nat.le_of_lt hg) (below_regrown w d os).size) ⟨sv, rfl, by unfold I64; omega, hW.below ((below_regrown w d os).mono (Nat.le_of_lt hg))⟩ (by unfold I64; omega) (.inr (.inr ⟨hm, by omega, by omega, by simp, rfl⟩)))
  have HB := Lib.hid hB
  have HW := Lib.hid hW
  have k0 : w.cell? ⟨g, 0, none⟩ = some (.int .i64 n) := by rw [hB.cell]; rfl
  have k1 : w.cell? ⟨g, 1, none⟩ = some sv := by rw [hB.cell]; rfl
  have k2 : w.cell? ⟨g, 2, none⟩ = some (.int .i64 i) := by rw [hB.cell]; rfl
  have k3 : w.cell? ⟨g, 3, none⟩ = some (.int .i64 0) := by rw [hB.cell]; rfl
  have q0 := fun d os => cell_regrown k0 d os
  have q1 := fun d os => cell_regrown k1 d os
  have q2 := fun d os => cell_regrown k2 d os
  have q3 := fun d os => cell_regrown k3 d os
  clear hB hW hm
  generalize bitAt ws i = bt at *
  cases bt
  all_goals
    go_enter Try.func73, Try.ntmps73
    go_wp2_with fail
    refine wp_region_quiet_below (by kernel_rfl) (by kernel_rfl) ?_
    repeat (quiet_step ((go_at_call 66; exact HA.out _ _)))
    refine wpQuiet_nil ?_
    intro _ hw'
    obtain ⟨⟨dq, osq⟩, hw''⟩ := hw'
    subst hw''
    have hbw := below_regrown w dq osq
    have hB1 := HB.out.below hbw hg
    have k8 : (Sort.grow (redrawn w dq) osq).cell? ⟨g, 2, none⟩ = some (.int .i64 i) := hB1.cell 2
    have f8 := hB1.frozen 2
    have hW1 := HW.out.below (hbw.mono (Nat.le_of_lt hg))
    have HB1 := Lib.hid hB1
    generalize Sort.grow (redrawn w dq) osq = w1 at *
    clear q0 q1 q2 q3 k0 k1 k2 k3 hB1
    go_wp2_with fail
    go_ret
    exact ⟨rfl, ⟨sv, HB1.out.set_ 2 _, hW1.below ((Below.refl _ _).setCell (p := ⟨g, 2, none⟩) (Nat.le_refl _) _)⟩, grown_store (grown_below hbw) rfl _⟩
set_option maxRecDepth 100000 in
set_option maxHeartbeats 1000000 in
theorem gamNumber_any (w : World) (g n : Nat) (ws : List Nat) (i many : Nat) (h : RdAt 75 w g n ws i 0) (hm : mayBits n ws = true) (hi : i ≤ n) (hk : many ≤ 20) :
    Calls Try.prog 74 #[.pointer (some ⟨g, 0, none⟩), .int .i64 many] w fun x w' => ∃ (v i' : Nat) (e : Int), x = .returned (.int .i64 v) ∧ v < 2097152 ∧ RdAt 75 w' g n ws i' e ∧ w.grownBy w' (some g) ∧
      ((i + many ≤ n ∧ e = 0 ∧ i' = i + many ∧ v = valB 1 (((rowBits ws n).drop i).take many)) ∨ (n < i + many ∧ e = 5)) := by
  have HM := Lib.hid hm
  have H0 := Lib.hid h
  have HV0 : Hid (1 = valB 1 (((rowBits ws n).drop i).take 0)) := Lib.hid (by rw [List.take_zero, valB_nil])
  clear hm h
  go_enter Try.func74, Try.ntmps74
  go_wp2_with fail
  go_loopw [5, 7] (fun nv kv wr => ∃ (k v i' : Nat) (e : Int), k ≤ many ∧ kv = .int .i64 k ∧ nv = .int .i64 v ∧ v < 2 ^ (k + 1) ∧ RdAt 75 wr g n ws i' e ∧ w.grownBy wr (some g) ∧ ((i + k ≤ n ∧ e = 0 ∧ i' = i + k ∧ v = valB 1 (((rowBits ws n).drop i).take k)) ∨ (n < i + k ∧ e = 5))) (fun _ kv _ => many - (intOf kv).toNat)
  case atStart => exact ⟨0, 1, i, 0, by omega, rfl, rfl, by decide, H0.out, World.grownBy.refl _ _, .inl ⟨by omega, rfl, rfl, HV0.out⟩⟩
  case round =>
    obtain ⟨k, v, i', e, hkm, rfl, rfl, hv, hrd, hgr, hcase⟩ := hrel
    have hp := p21 (k := k) (by omega)
    by_cases hlt : k < many
    · have HV : Hid (∀ b : Bool, 2 * v + b.toNat < 2 ^ (k + 1 + 1)) := Lib.hid fun b => by
        have hb := bool_le b
        rw [Nat.pow_succ]; omega
      have hv2 : v < 2097152 := by omega
      have HG := Lib.hid hgr
      rcases hcase with ⟨hik, rfl, rfl, hval⟩ | ⟨hik, rfl⟩
      · by_cases hin : i + k < n
        · have HB := Lib.hid (gamBit_one wr g n ws (i + k) hrd HM.out hin)
          have HT := Lib.hid (row_take ws hin)
          have HVal := Lib.hid hval
          clear hrd hgr hval hv
          cases hb : bitAt ws (i + k)
          all_goals
            rw [hb] at HB HT
            have o0 := or_zero v (by omega)
            have o1 := or_one v (by omega)
            go_wp2_with (go_at_call 73; refine (HB.out).mono ?_; rintro x w2 ⟨rfl, hr2, hg2⟩)
            go_roundw
            case rel => exact ⟨k + 1, _, _, 0, by omega, by go_num, rfl, by first | exact HV.out false | exact HV.out true, hr2, grown_trans HG.out hg2, .inl ⟨by omega, rfl, by omega, by rw [HT.out, valB_snoc, ← HVal.out]; rfl⟩⟩
            case measure => simp [intOf]; omega
        · obtain hin2 : i + k = n := by omega
          rw [hin2] at hrd
          have HB := Lib.hid (gamBit_end wr g n ws hrd HM.out)
          have o0 := or_zero v (by omega)
          clear hrd hgr hval hv
          go_wp2_with (go_at_call 73; refine (HB.out).mono ?_; rintro x w2 ⟨rfl, hr2, hg2⟩)
          go_roundw
          case rel => exact ⟨k + 1, _, _, 5, by omega, by go_num, rfl, HV.out false, hr2, grown_trans HG.out hg2, .inr ⟨by omega, rfl⟩⟩
          case measure => simp [intOf]; omega
      · have HB := Lib.hid (gamBit_bad wr g n ws i' 5 hrd (by decide))
        have HRD := Lib.hid hrd
        have o0 := or_zero v (by omega)
        clear hrd hgr hv
        go_wp2_with (go_at_call 73; refine (HB.out).mono ?_; rintro x w2 ⟨rfl, rfl⟩)
        go_roundw
        case rel => exact ⟨k + 1, _, _, 5, by omega, by go_num, rfl, HV.out false, HRD.out, HG.out, .inr ⟨by omega, rfl⟩⟩
        case measure => simp [intOf]; omega
    · obtain rfl : k = many := by omega
      have HRD := Lib.hid hrd
      have HG := Lib.hid hgr
      have HC := Lib.hid hcase
      have hv2 : v < 2097152 := by omega
      clear hrd hgr hcase hv
      go_wp2_with fail
      go_ret
      exact ⟨v, i', e, rfl, hv2, HRD.out, HG.out, HC.out⟩
end Go.Proofs.Yteblkbgcnoepnaa
