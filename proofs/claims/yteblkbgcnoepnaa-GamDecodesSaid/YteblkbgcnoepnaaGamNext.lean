/-
  Contract of the reader's next: the next number of a kind, or why there is none. Conditions: the reader's row may be, and its place lies within it.
-/
import Derived.Test.YteblkbgcnoepnaaGamReader
namespace Go.Proofs.Yteblkbgcnoepnaa
open Go Go.RowKit Go.Dam
set_option linter.unusedVariables false
/-- What a reading that failed leaves. -/
def NextBad (w : World) (g n : Nat) (ws : List Nat) (e : Int) (u : Ending) (w' : World) : Prop := ∃ (v i' : Nat), u = .returned (.int .i64 v) ∧ v < 2097152 ∧ RdAt 75 w' g n ws i' e ∧ w.grownBy w' (some g)
theorem gamNumber_fit (w : World) (g n : Nat) (ws : List Nat) (i many : Nat) (h : RdAt 75 w g n ws i 0) (hm : mayBits n ws = true) (hi : i ≤ n) (hk : many ≤ 20) (hf : i + many ≤ n) (V : Nat) (hV : V = valB 1 (((rowBits ws n).drop i).take many)) :
    Calls Try.prog 74 #[.pointer (some ⟨g, 0, none⟩), .int .i64 many] w fun x w' => x = .returned (.int .i64 V) ∧ RdAt 75 w' g n ws (i + many) 0 ∧ w.grownBy w' (some g) := by
  refine (gamNumber_any w g n ws i many h hm hi hk).mono ?_
  rintro x w' ⟨v, i', e, rfl, _, hr, hg, h1 | h1⟩
  · obtain ⟨_, rfl, rfl, rfl⟩ := h1
    subst hV
    exact ⟨rfl, hr, hg⟩
  · omega
theorem gamNumber_not (w : World) (g n : Nat) (ws : List Nat) (i many : Nat) (h : RdAt 75 w g n ws i 0) (hm : mayBits n ws = true) (hi : i ≤ n) (hk : many ≤ 20) (hf : n < i + many) :
    Calls Try.prog 74 #[.pointer (some ⟨g, 0, none⟩), .int .i64 many] w fun x w' => ∃ v i' : Nat, x = .returned (.int .i64 v) ∧ v < 2097152 ∧ RdAt 75 w' g n ws i' 5 ∧ w.grownBy w' (some g) := by
  refine (gamNumber_any w g n ws i many h hm hi hk).mono ?_
  rintro x w' ⟨v, i', e, rfl, hv, hr, hg, h1 | h1⟩
  · omega
  · obtain ⟨_, rfl⟩ := h1
    exact ⟨v, i', rfl, hv, hr, hg⟩
theorem value_lt (ws : List Nat) {n i many : Nat} (hk : many ≤ 20) (hf : i + many ≤ n) : valB 1 (((rowBits ws n).drop i).take many) < 2097152 := by
  have := valB_bound (((rowBits ws n).drop i).take many) 1
  rw [List.length_take, List.length_drop, rowBits_length, Nat.min_eq_left (by omega)] at this
  have h2 : 2 ^ many ≤ 2 ^ 20 := Nat.pow_le_pow_right (by decide) hk
  omega
set_option maxRecDepth 100000 in
set_option maxHeartbeats 1000000 in
theorem gamNext_1 (w : World) (g n : Nat) (ws : List Nat) (i : Nat) (h : RdAt 75 w g n ws i 0) (hm : mayBits n ws = true) (hi : i ≤ n) :
    Calls Try.prog 54 #[.pointer (some ⟨g, 0, none⟩), .int .i64 1] w fun x w' => ∃ (v i' y : Nat) (e : Int) (rest : List Bool), x = .returned (.int .i64 v) ∧ v < 2097152 ∧ RdAt 75 w' g n ws i' e ∧ w.grownBy w' (some g) ∧
      Next1 ((rowBits ws n).drop i) y rest e ∧ (e = 0 → v = y ∧ i' ≤ n ∧ rest = (rowBits ws n).drop i') := by
  have HM := Lib.hid hm
  have H0 := Lib.hid h
  have HLen : Hid (((rowBits ws n).drop i).length = n - i) := Lib.hid (by rw [List.length_drop, rowBits_length])
  clear hm h
  go_enter Try.func54, Try.ntmps54
  go_wp2_with fail
  go_loopw [5] (fun zv wr => ∃ (z i' : Nat) (e : Int), zv = .int .i64 z ∧ z ≤ 21 ∧ i + z ≤ n ∧ i' = i + z ∧ RdAt 75 wr g n ws i' e ∧ w.grownBy wr (some g) ∧ (∀ j, j < z → ((rowBits ws n).drop i).getD j false = false) ∧ ((z < 21 ∧ e = 0) ∨ (z = 21 ∧ e = 2))) (fun zv _ => 22 - (intOf zv).toNat)
  case atStart => exact ⟨0, i, 0, rfl, by omega, by omega, rfl, H0.out, World.grownBy.refl _ _, fun j hj => absurd hj (by omega), .inl ⟨by omega, rfl⟩⟩
  case round =>
    obtain ⟨z, i', e, rfl, hz, hiz, rfl, hrd, hgr, hall, hcase⟩ := hrel
    have HG := Lib.hid hgr
    have HAll := Lib.hid hall
    rcases hcase with ⟨hz2, rfl⟩ | ⟨rfl, rfl⟩
    · by_cases hin : i + z < n
      · have HB := Lib.hid (gamBit_one wr g n ws (i + z) hrd HM.out hin)
        have HAt := Lib.hid (row_at ws hin)
        cases hb : bitAt ws (i + z) with
        | false =>
          rw [hb] at HB HAt
          have HAll2 : Hid (∀ j, j < z + 1 → ((rowBits ws n).drop i).getD j false = false) := Lib.hid fun j hj => by
            rcases Nat.lt_or_eq_of_le (Nat.le_of_lt_succ hj) with g | g
            · exact HAll.out j g
            · rw [g]; exact HAt.out
          clear hrd hgr hall hb
          by_cases h21 : z + 1 < 21
          · go_wp2_with (go_at_call 73; refine (HB.out).mono ?_; rintro x w2 ⟨rfl, hr2, hg2⟩; have HR2 := Lib.hid hr2; obtain ⟨sv2, hB2, _⟩ := hr2; have q3 : w2.cell? ⟨g, 3, none⟩ = some (.int .i64 0) := hB2.cell 3)
            go_roundw
            case rel => exact ⟨z + 1, _, 0, by go_num, by omega, by omega, by omega, HR2.out, grown_trans HG.out hg2, HAll2.out, .inl ⟨by omega, rfl⟩⟩
            case measure => simp [intOf]; omega
          · obtain rfl : z = 20 := by omega
            go_wp2_with (go_at_call 73; refine (HB.out).mono ?_; rintro x w2 ⟨rfl, hr2, hg2⟩; obtain ⟨sv2, hB2, hW2⟩ := hr2; have HB2 := Lib.hid hB2; have q3 : w2.cell? ⟨g, 3, none⟩ = some (.int .i64 0) := hB2.cell 3; have f3 := hB2.frozen 3)
            go_roundw
            case rel => exact ⟨21, _, 2, by go_num, by omega, by omega, by omega, ⟨sv2, HB2.out.set_ 3 _, hW2.below ((Below.refl _ _).setCell (p := ⟨g, 3, none⟩) (Nat.le_refl _) _)⟩, grown_store (grown_trans HG.out hg2) rfl _, HAll2.out, .inr ⟨rfl, rfl⟩⟩
            case measure => simp [intOf]
        | true =>
          rw [hb] at HB HAt
          have HZ := Lib.hid (zerosB_is ((rowBits ws n).drop i) z (by rw [HLen.out]; omega) HAt.out HAll.out)
          have hdr : ((rowBits ws n).drop i).drop (z + 1) = (rowBits ws n).drop (i + z + 1) := by rw [List.drop_drop]; rfl
          clear hrd hgr hall hb
          by_cases hfit : i + z + 1 + z ≤ n
          · obtain ⟨V, hV⟩ : ∃ V, V = valB 1 (((rowBits ws n).drop (i + z + 1)).take z) := ⟨_, rfl⟩
            have hVl := value_lt ws (n := n) (i := i + z + 1) (many := z) (by omega) hfit
            rw [← hV] at hVl
            have HV := Lib.hid hV
            have HNum := Lib.hid fun W hr => gamNumber_fit W g n ws (i + z + 1) z hr HM.out (by omega) (by omega) hfit V HV.out
            have HDr := Lib.hid hdr
            clear hV hdr
            by_cases hbig : 1048576 < V
            · go_wp2_with (first
                | (go_at_call 73; refine (HB.out).mono ?_; rintro x w2 ⟨rfl, hr2, hg2⟩; have HR2 := Lib.hid hr2; obtain ⟨sv2, hB2, _⟩ := hr2; have q3 : w2.cell? ⟨g, 3, none⟩ = some (.int .i64 0) := hB2.cell 3)
                | (go_at_call 74; refine (HNum.out _ HR2.out).mono ?_; rintro x w3 ⟨rfl, hr3, hg3⟩; obtain ⟨sv3, hB3, hW3⟩ := hr3; have HB3 := Lib.hid hB3; have q4 : w3.cell? ⟨g, 3, none⟩ = some (.int .i64 0) := hB3.cell 3; have f4 := hB3.frozen 3))
              go_ret
              exact ⟨V, _, 0, 2, [], rfl, hVl, ⟨sv3, HB3.out.set_ 3 _, hW3.below ((Below.refl _ _).setCell (p := ⟨g, 3, none⟩) (Nat.le_refl _) _)⟩, grown_store (grown_trans (grown_trans HG.out hg2) hg3) rfl _, .inr (.inr ⟨by rw [HZ.out]; omega, by rw [HZ.out, HLen.out]; omega, .inr (.inl ⟨by rw [HZ.out, HDr.out, List.length_drop, rowBits_length]; omega, by rw [HZ.out, HDr.out, ← HV.out]; exact hbig, rfl, rfl, rfl⟩)⟩), fun h => absurd h (by decide)⟩
            · go_wp2_with (first
                | (go_at_call 73; refine (HB.out).mono ?_; rintro x w2 ⟨rfl, hr2, hg2⟩; have HR2 := Lib.hid hr2; obtain ⟨sv2, hB2, _⟩ := hr2; have q3 : w2.cell? ⟨g, 3, none⟩ = some (.int .i64 0) := hB2.cell 3)
                | (go_at_call 74; refine (HNum.out _ HR2.out).mono ?_; rintro x w3 ⟨rfl, hr3, hg3⟩; have HR3 := Lib.hid hr3; obtain ⟨sv3, hB3, hW3⟩ := hr3; have HB3 := Lib.hid hB3; have q4 : w3.cell? ⟨g, 3, none⟩ = some (.int .i64 0) := hB3.cell 3; have f4 := hB3.frozen 3))
              go_ret
              exact ⟨V, _, V, 0, (rowBits ws n).drop (i + z + 1 + z), rfl, hVl, HR3.out, grown_trans (grown_trans HG.out hg2) hg3, .inr (.inr ⟨by rw [HZ.out]; omega, by rw [HZ.out, HLen.out]; omega, .inr (.inr ⟨by rw [HZ.out, HDr.out, List.length_drop, rowBits_length]; omega, by rw [HZ.out, HDr.out, ← HV.out]; omega, rfl, by rw [HZ.out, HDr.out, ← HV.out], by rw [HZ.out, HDr.out, List.drop_drop]⟩)⟩), fun _ => ⟨rfl, by omega, rfl⟩⟩
          · have HNum := Lib.hid fun W hr => gamNumber_not W g n ws (i + z + 1) z hr HM.out (by omega) (by omega) (by omega)
            have HDr := Lib.hid hdr
            clear hdr
            go_wp2_with (first
              | (go_at_call 73; refine (HB.out).mono ?_; rintro x w2 ⟨rfl, hr2, hg2⟩; have HR2 := Lib.hid hr2; obtain ⟨sv2, hB2, _⟩ := hr2; have q3 : w2.cell? ⟨g, 3, none⟩ = some (.int .i64 0) := hB2.cell 3)
              | (go_at_call 74; refine (HNum.out _ HR2.out).mono ?_; rintro x w3 ⟨v, i3, rfl, hv3, hr3, hg3⟩; have HR3 := Lib.hid hr3; obtain ⟨sv3, hB3, hW3⟩ := hr3; have q4 : w3.cell? ⟨g, 3, none⟩ = some (.int .i64 5) := hB3.cell 3))
            go_ret
            exact ⟨v, i3, 0, 5, [], rfl, hv3, HR3.out, grown_trans (grown_trans HG.out hg2) hg3, .inr (.inr ⟨by rw [HZ.out]; omega, by rw [HZ.out, HLen.out]; omega, .inl ⟨by rw [HZ.out, HDr.out, List.length_drop, rowBits_length]; omega, rfl, rfl, rfl⟩⟩), fun h => absurd h (by decide)⟩
      · obtain hin2 : i + z = n := by omega
        rw [hin2] at hrd
        have HB := Lib.hid (gamBit_end wr g n ws hrd HM.out)
        have HZ : Hid (zerosB ((rowBits ws n).drop i) = z) := Lib.hid (by
          have h1 := zerosB_ge ((rowBits ws n).drop i) z (by rw [HLen.out]; omega) HAll.out
          have h2 := zerosB_le ((rowBits ws n).drop i)
          rw [HLen.out] at h2
          omega)
        clear hrd hgr hall
        go_wp2_with (go_at_call 73; refine (HB.out).mono ?_; rintro x w2 ⟨rfl, hr2, hg2⟩; have HR2 := Lib.hid hr2; obtain ⟨sv2, hB2, _⟩ := hr2; have q3 : w2.cell? ⟨g, 3, none⟩ = some (.int .i64 5) := hB2.cell 3)
        go_ret
        exact ⟨0, n, 0, 5, [], rfl, by omega, HR2.out, grown_trans HG.out hg2, .inr (.inl ⟨by rw [HZ.out]; omega, by rw [HZ.out, HLen.out]; omega, rfl, rfl, rfl⟩), fun h => absurd h (by decide)⟩
    · have HB := Lib.hid (gamBit_bad wr g n ws _ 2 hrd (by decide))
      have HZ := Lib.hid (zerosB_ge ((rowBits ws n).drop i) 21 (by rw [HLen.out]; omega) HAll.out)
      have HRD := Lib.hid hrd
      obtain ⟨sv2, hB2, _⟩ := hrd
      have q3 : wr.cell? ⟨g, 3, none⟩ = some (.int .i64 2) := hB2.cell 3
      clear hgr hall hB2
      go_wp2_with (go_at_call 73; refine (HB.out).mono ?_; rintro x w2 ⟨rfl, rfl⟩)
      go_ret
      exact ⟨0, _, 0, 2, [], rfl, by omega, HRD.out, HG.out, .inl ⟨HZ.out, rfl, rfl, rfl⟩, fun h => absurd h (by decide)⟩
theorem gamNext_1r (w : World) (g n : Nat) (ws : List Nat) (i y : Nat) (rest : List Bool) (e : Int) (h : RdAt 75 w g n ws i 0) (hm : mayBits n ws = true) (hi : i ≤ n) (hR : Next1 ((rowBits ws n).drop i) y rest e) :
    Calls Try.prog 54 #[.pointer (some ⟨g, 0, none⟩), .int .i64 1] w fun x w' => ∃ (v i' : Nat), x = .returned (.int .i64 v) ∧ v < 2097152 ∧ RdAt 75 w' g n ws i' e ∧ w.grownBy w' (some g) ∧ (e = 0 → v = y ∧ i' ≤ n ∧ rest = (rowBits ws n).drop i') := by
  refine (gamNext_1 w g n ws i h hm hi).mono ?_
  rintro x w' ⟨v, i', y', e', rest', rfl, hv, hr, hg, h1, h2⟩
  obtain ⟨rfl, rfl, rfl⟩ := h1.uniq hR
  exact ⟨v, i', rfl, hv, hr, hg, h2⟩
theorem gamNext_1z (w : World) (g n : Nat) (ws : List Nat) (i y : Nat) (rest : List Bool) (h : RdAt 75 w g n ws i 0) (hm : mayBits n ws = true) (hi : i ≤ n) (hR : Next1 ((rowBits ws n).drop i) y rest 0) :
    Calls Try.prog 54 #[.pointer (some ⟨g, 0, none⟩), .int .i64 1] w fun x w' => ∃ i' : Nat, x = .returned (.int .i64 y) ∧ RdAt 75 w' g n ws i' 0 ∧ w.grownBy w' (some g) ∧ i' ≤ n ∧ rest = (rowBits ws n).drop i' := by
  refine (gamNext_1r w g n ws i y rest 0 h hm hi hR).mono ?_
  rintro x w' ⟨v, i', rfl, hv, hr, hg, h2⟩
  obtain ⟨rfl, h3, h4⟩ := h2 rfl
  exact ⟨i', rfl, hr, hg, h3, h4⟩
set_option maxRecDepth 100000 in
set_option maxHeartbeats 1000000 in
theorem gamNext_2 (w : World) (g n : Nat) (ws : List Nat) (i x : Nat) (rest : List Bool) (e : Int) (h : RdAt 75 w g n ws i 0) (hm : mayBits n ws = true) (hi : i ≤ n) (hR : NextR 2 ((rowBits ws n).drop i) x rest e) :
    Calls Try.prog 54 #[.pointer (some ⟨g, 0, none⟩), .int .i64 2] w fun u w' => ∃ (v i' : Nat), u = .returned (.int .i64 v) ∧ v < 2097152 ∧ RdAt 75 w' g n ws i' e ∧ w.grownBy w' (some g) ∧ (e = 0 → v = x ∧ i' ≤ n ∧ rest = (rowBits ws n).drop i') := by
  rcases hR with ⟨h2, _⟩ | ⟨_, y, r, f, h1, hc⟩
  · exact absurd rfl h2
  rcases hc with ⟨hf, rfl, rfl, rfl⟩ | ⟨rfl, hy, rfl, rfl, rfl⟩ | ⟨rfl, hy, hnum⟩
  · have HN := Lib.hid (gamNext_1r w g n ws i y r e h hm hi h1)
    have hd : (e != 0) = true := by simpa using hf
    have hd2 : (e == 0) = false := by simpa using hf
    have HF := Lib.hid hf
    suffices hs : Calls Try.prog 54 #[.pointer (some ⟨g, 0, none⟩), .int .i64 2] w (NextBad w g n ws e) from hs.mono fun u w' ⟨v, i', h1, h2, h3, h4⟩ => ⟨v, i', h1, h2, h3, h4, fun h => absurd h HF.out⟩
    clear h hm h1 hf
    go_enter Try.func54, Try.ntmps54
    go_wp2_with (go_at_call 54; refine (HN.out).mono ?_; rintro u w2 ⟨v, i2, rfl, hv, hr2, hg2, _⟩; have HR2 := Lib.hid hr2; obtain ⟨sv2, hB2, _⟩ := hr2; have q3 : w2.cell? ⟨g, 3, none⟩ = some (.int .i64 e) := hB2.cell 3)
    all_goals
      go_ret
      exact ⟨0, i2, rfl, by omega, HR2.out, hg2⟩
  · have HN := Lib.hid (gamNext_1z w g n ws i y r h hm hi h1)
    have hyb := (h1.fact.1 rfl).2.1
    clear h hm h1
    go_enter Try.func54, Try.ntmps54
    go_wp2_with (go_at_call 54; refine (HN.out).mono ?_; rintro u w2 ⟨i2, rfl, hr2, hg2, _⟩; obtain ⟨sv2, hB2, hW2⟩ := hr2; have HB2 := Lib.hid hB2; have q3 : w2.cell? ⟨g, 3, none⟩ = some (.int .i64 0) := hB2.cell 3; have f3 := hB2.frozen 3)
    go_ret
    exact ⟨0, i2, rfl, by omega, ⟨sv2, HB2.out.set_ 3 _, hW2.below ((Below.refl _ _).setCell (p := ⟨g, 3, none⟩) (Nat.le_refl _) _)⟩, grown_store hg2 rfl _, fun h => absurd h (by decide)⟩
  · have HN := Lib.hid (gamNext_1z w g n ws i y r h hm hi h1)
    obtain ⟨z, rfl⟩ : ∃ z, y = z + 1 := ⟨y - 1, by have := (h1.fact.1 rfl).1; omega⟩
    obtain ⟨_, _, t, _, ht, hrt⟩ := h1.fact.1 rfl
    rw [List.length_drop, rowBits_length] at ht
    rw [List.drop_drop] at hrt
    have HM := Lib.hid hm
    have HLR : Hid (∀ i2, r = (rowBits ws n).drop i2 → r.length = n - i2) := Lib.hid fun i2 h => by rw [h, List.length_drop, rowBits_length]
    rcases hnum with ⟨hs, rfl, rfl, rfl⟩ | ⟨hf, hbig, rfl, rfl, rfl⟩ | ⟨hf, hbig, rfl, rfl, rfl⟩
    · have HNum := Lib.hid fun W i2 hr (hi2 : i2 ≤ n) (hrr : r = (rowBits ws n).drop i2) => gamNumber_not W g n ws i2 z hr HM.out hi2 (by omega) (by have := HLR.out _ hrr; simp at hs; omega)
      clear h hm h1 hs
      go_enter Try.func54, Try.ntmps54
      go_wp2_with (first
        | (go_at_call 54; refine (HN.out).mono ?_; rintro u w2 ⟨i2, rfl, hr2, hg2, hi2, hrr⟩; have HRR := Lib.hid hrr; clear hrr; have HR2 := Lib.hid hr2; obtain ⟨sv2, hB2, hW2⟩ := hr2; have q3 : w2.cell? ⟨g, 3, none⟩ = some (.int .i64 0) := hB2.cell 3)
        | (go_at_call 74; refine (HNum.out _ i2 HR2.out hi2 HRR.out).mono ?_; rintro x w3 ⟨v, i3, rfl, hv3, hr3, hg3⟩; have HR3 := Lib.hid hr3; obtain ⟨sv3, hB3, hW3⟩ := hr3; have q4 : w3.cell? ⟨g, 3, none⟩ = some (.int .i64 5) := hB3.cell 3))
      go_ret
      exact ⟨v, i3, rfl, hv3, HR3.out, grown_trans hg2 hg3, fun h => absurd h (by decide)⟩
    · obtain ⟨V, hV⟩ : ∃ V, V = valB 1 (r.take z) := ⟨_, rfl⟩
      rw [show z + 1 - 1 = z from rfl] at hf hbig
      have HNum := Lib.hid fun W i2 hr (hi2 : i2 ≤ n) (hrr : r = (rowBits ws n).drop i2) => gamNumber_fit W g n ws i2 z hr HM.out hi2 (by omega) (by have := HLR.out _ hrr; omega) V (by rw [hV, hrr])
      have hVl : V < 2097152 := by
        rw [hV, hrt]
        exact value_lt ws (by omega) (by have := HLR.out _ hrt; omega)
      rw [← hV] at hbig
      clear h hm h1 hf hV hrt
      go_enter Try.func54, Try.ntmps54
      go_wp2_with (first
        | (go_at_call 54; refine (HN.out).mono ?_; rintro u w2 ⟨i2, rfl, hr2, hg2, hi2, hrr⟩; have HRR := Lib.hid hrr; clear hrr; have HR2 := Lib.hid hr2; obtain ⟨sv2, hB2, hW2⟩ := hr2; have q3 : w2.cell? ⟨g, 3, none⟩ = some (.int .i64 0) := hB2.cell 3)
        | (go_at_call 74; refine (HNum.out _ i2 HR2.out hi2 HRR.out).mono ?_; rintro x w3 ⟨rfl, hr3, hg3⟩; obtain ⟨sv3, hB3, hW3⟩ := hr3; have HB3 := Lib.hid hB3; have q4 : w3.cell? ⟨g, 3, none⟩ = some (.int .i64 0) := hB3.cell 3; have f4 := hB3.frozen 3))
      go_ret
      exact ⟨V, _, rfl, hVl, ⟨sv3, HB3.out.set_ 3 _, hW3.below ((Below.refl _ _).setCell (p := ⟨g, 3, none⟩) (Nat.le_refl _) _)⟩, grown_store (grown_trans hg2 hg3) rfl _, fun h => absurd h (by decide)⟩
    · obtain ⟨V, hV⟩ : ∃ V, V = valB 1 (r.take z) := ⟨_, rfl⟩
      rw [show z + 1 - 1 = z from rfl] at hf hbig ⊢
      have HNum := Lib.hid fun W i2 hr (hi2 : i2 ≤ n) (hrr : r = (rowBits ws n).drop i2) => gamNumber_fit W g n ws i2 z hr HM.out hi2 (by omega) (by have := HLR.out _ hrr; omega) V (by rw [hV, hrr])
      rw [← hV] at hbig ⊢
      have HFit : Hid (∀ i2, r = (rowBits ws n).drop i2 → i2 ≤ n → i2 + z ≤ n) := Lib.hid fun i2 hrr hi2 => by have := HLR.out _ hrr; omega
      clear h hm h1 hf hV hrt
      go_enter Try.func54, Try.ntmps54
      go_wp2_with (first
        | (go_at_call 54; refine (HN.out).mono ?_; rintro u w2 ⟨i2, rfl, hr2, hg2, hi2, hrr⟩; have HRR := Lib.hid hrr; clear hrr; have HR2 := Lib.hid hr2; obtain ⟨sv2, hB2, hW2⟩ := hr2; have q3 : w2.cell? ⟨g, 3, none⟩ = some (.int .i64 0) := hB2.cell 3)
        | (go_at_call 74; refine (HNum.out _ i2 HR2.out hi2 HRR.out).mono ?_; rintro x w3 ⟨rfl, hr3, hg3⟩; have HR3 := Lib.hid hr3; obtain ⟨sv3, hB3, hW3⟩ := hr3; have q4 : w3.cell? ⟨g, 3, none⟩ = some (.int .i64 0) := hB3.cell 3))
      go_ret
      exact ⟨V, _, rfl, by omega, HR3.out, grown_trans hg2 hg3, fun _ => ⟨rfl, HFit.out _ HRR.out hi2, by rw [HRR.out, List.drop_drop]⟩⟩
theorem gamNext_any (k : Int) (w : World) (g n : Nat) (ws : List Nat) (i x : Nat) (rest : List Bool) (e : Int) (hk : kinded k) (h : RdAt 75 w g n ws i 0) (hm : mayBits n ws = true) (hi : i ≤ n) (hR : NextR k ((rowBits ws n).drop i) x rest e) :
    Calls Try.prog 54 #[.pointer (some ⟨g, 0, none⟩), .int .i64 k] w fun u w' => ∃ (v i' : Nat), u = .returned (.int .i64 v) ∧ v < 2097152 ∧ RdAt 75 w' g n ws i' e ∧ w.grownBy w' (some g) ∧ (e = 0 → v = x ∧ i' ≤ n ∧ rest = (rowBits ws n).drop i') := by
  rcases hk with rfl | rfl
  · rcases hR with ⟨_, hR⟩ | ⟨h2, _⟩
    · exact gamNext_1r w g n ws i x rest e h hm hi hR
    · exact absurd h2 (by decide)
  · exact gamNext_2 w g n ws i x rest e h hm hi hR
end Go.Proofs.Yteblkbgcnoepnaa
