/-
  Contracts of stab.apart, stab.Apart and stab.Nails, as far as the law asks: the codes, and that what they hand back is there. Conditions: the spans can be read as data.
-/
import Derived.Test.YtgfddolchachkaaMStabRefused18
namespace Go.Proofs.Ytgfddolchachkaa
open Go Go.RowKit Go.Dam
set_option linter.unusedVariables false
set_option maxHeartbeats 4000000 in
theorem stabApartIn_any (v : Value) (n : Nat) (l : List Int) (w : World) (B : Nat) (hB : B ≤ w.heap.size) (h : IsFlat 2 w B v n l) (hn100 : n ≤ 100) :
    Calls Try.prog 58 #[v] w fun e w' => ∃ v' m r, e = .returned v' ∧ m ≤ n ∧ r.length = m ∧ (∀ z ∈ r, z < n) ∧ w'.ownsRow w.heap.size 3 1 v' m ((natS r).map (Value.int .i64)) ∧ Below w.heap.size w w' := by
  have HP := Lib.hid (stabPlaces_any 55 _ keyHigh v n l w B hB h hn100)
  obtain ⟨A, c, rfl, hc, hm, hn, hl, hr, hw⟩ := h
  have HLn := Lib.hid hl
  have HRd := Lib.hid hr
  clear hl hr hw
  go_enter Try.func58, Try.ntmps58
  go_wp2_with (go_at_call 54; with_reducible refine (HP.out).mono ?_; rintro e w2 ⟨v2, ra, rfl, hka, hoa, hb2⟩; have HA := Lib.hid hka; have HOA := Lib.hid hoa; have HB2 := Lib.hid hb2; obtain ⟨A2, c2, rfl⟩ := own_shape hoa; clear hka hoa hb2)
  have hz2 := HB2.out.size
  go_loopw [3, 5, 9] (fun ov _ iv wr => ∃ (k m : Nat) (r : List Nat), k ≤ n ∧ iv = .int .i64 k ∧ m ≤ k ∧ Hid (r.length = m ∧ (∀ z ∈ r, z < n) ∧ wr.ownsRow w2.heap.size 3 1 ov m ((natS r).map (Value.int .i64))) ∧ Hid (Below w2.heap.size w2 wr)) (fun _ _ iv _ => n - (intOf iv).toNat)
  case atStart => exact ⟨0, 0, [], by omega, rfl, by omega, Lib.hid ⟨rfl, by simp, World.ownsRow_nil _ _ _ _⟩, Lib.hid (Below.refl _ _)⟩
  case round =>
    obtain ⟨k, m, r, hk, rfl, hmk, HO, HB⟩ := hrel
    by_cases hlt : k < n
    · obtain ⟨bk, off, rfl, hbk, hcells⟩ := flat_cells HRd.out HLn.out (by omega) (by omega)
      have hz := HB.out.size
      have hpl : ra.getD k 0 < n := HA.out.lt hlt
      obtain ⟨ga, ca, hva, hba, hlta⟩ := HOA.out.form (by omega)
      injection hva with hA2 _ hc2
      subst hA2 hc2
      have b0 : wr.cell? ⟨ga, k, none⟩ = some (.int .i64 ((ra.getD k 0 : Nat) : Int)) := by
        refine (HB.out.cell (p := ⟨ga, k, none⟩) hlta).trans ?_
        rw [HOA.out.cellAt k (by omega), List.getElem?_map]
        have h1 := natS_at ra k
        rw [List.getD_eq_getElem?_getD, List.getElem?_eq_getElem (by rw [natS_len, HA.out.len]; exact hlt)] at h1
        rw [List.getElem?_eq_getElem (by rw [natS_len, HA.out.len]; exact hlt), ← h1]; rfl
      have HLc : Hid (∀ i, i < n → wr.cell? ⟨bk, off + i * 2, none⟩ = some (.int .i64 (l.getD (i * 2) 0)) ∧ wr.cell? ⟨bk, off + i * 2 + 1, none⟩ = some (.int .i64 (l.getD (i * 2 + 1) 0))) := Lib.hid fun i hi =>
        ⟨(HB.out.cell (p := ⟨bk, off + i * 2, none⟩) (by show bk < _; omega)).trans ((HB2.out.cell (p := ⟨bk, off + i * 2, none⟩) (by show bk < _; omega)).trans (hcells (i * 2) (by omega))), (HB.out.cell (p := ⟨bk, off + i * 2 + 1, none⟩) (by show bk < _; omega)).trans ((HB2.out.cell (p := ⟨bk, off + i * 2 + 1, none⟩) (by show bk < _; omega)).trans (hcells (i * 2 + 1) (by omega)))⟩
      have l0 := (HLc.out _ hpl).1
      obtain ⟨i, hi⟩ : ∃ i, i = ra.getD k 0 := ⟨_, rfl⟩
      rw [← hi] at b0 hpl l0
      obtain ⟨x, hx⟩ : ∃ x, x = l.getD (i * 2) 0 := ⟨_, rfl⟩
      rw [← hx] at l0
      have pi : (i : Int) < (n : Int) := by omega
      obtain ⟨A4, c4, rfl⟩ := own_shape HO.out.2.2
      clear hcells hi hx
      have HE : Hid (natS (r ++ [i]) = natS r ++ [(i : Int)]) := Lib.hid (by unfold natS; simp)
      rcases Nat.eq_zero_or_pos m with rfl | hm0
      · go_wp2_with fail
        go_quiet (fail)
        go_wp2_with (at_builtin; refine wpList_pushD el_int rfl (.tmp 34) (.tmp 36) rfl w2.heap.size _ 0 _ ((show (wr.drewN nq).ownsRow w2.heap.size 3 1 (.slice A4 0 c4) 0 ((natS r).map (Value.int .i64)) from HO.out.2.2).alloc _) rfl wr.heap.size 1 _ rfl (new_cell rfl) rfl (by omega) (by omega) (by simp; omega) ?_; intro v6 w6 hown6 hg6 hl6)
        go_roundw
        case rel => exact ⟨k + 1, 0 + 1, r ++ [i], by omega, by go_num, by omega, Lib.hid ⟨by rw [List.length_append, HO.out.1]; rfl, fun z hz => by
          rcases List.mem_append.1 hz with hz | hz
          · exact HO.out.2.1 z hz
          · rw [List.mem_singleton.1 hz]; exact hpl, by rw [HE.out, List.map_append]; exact hown6⟩, Lib.hid (below_push (Below.alloc (below_drewN HB.out nq) hz _) ((show (wr.drewN nq).ownsRow w2.heap.size 3 1 (.slice A4 0 c4) 0 ((natS r).map (Value.int .i64)) from HO.out.2.2).alloc _) (Nat.le_refl _) (by simp; omega) hg6)⟩
        case measure => simp [intOf]; omega
      · have hlast : r.getD (m - 1) 0 < n := by
          have := HO.out.1
          rw [List.getD_eq_getElem?_getD, List.getElem?_eq_getElem (by omega)]
          exact HO.out.2.1 _ (List.getElem_mem _)
        obtain ⟨go, cao, hvo, hbo, hlto⟩ := HO.out.2.2.form hm0
        injection hvo with hA4 _ hc4
        subst hA4 hc4
        have d0 : wr.cell? ⟨go, m - 1, none⟩ = some (.int .i64 ((r.getD (m - 1) 0 : Nat) : Int)) := by
          rw [HO.out.2.2.cellAt (m - 1) (by omega), List.getElem?_map]
          have h1 := natS_at r (m - 1)
          rw [List.getD_eq_getElem?_getD, List.getElem?_eq_getElem (by rw [natS_len, HO.out.1]; omega)] at h1
          rw [List.getElem?_eq_getElem (by rw [natS_len, HO.out.1]; omega), ← h1]; rfl
        have l1 := (HLc.out _ hlast).2
        obtain ⟨j, hj⟩ : ∃ j, j = r.getD (m - 1) 0 := ⟨_, rfl⟩
        rw [← hj] at d0 hlast l1
        obtain ⟨y, hy⟩ : ∃ y, y = l.getD (j * 2 + 1) 0 := ⟨_, rfl⟩
        rw [← hy] at l1
        obtain ⟨m1, hm1⟩ : ∃ m1, m = m1 + 1 := ⟨m - 1, by omega⟩
        subst hm1
        rw [show m1 + 1 - 1 = m1 from rfl] at d0
        have pj : (j : Int) < (n : Int) := by omega
        have t0 : (((m1 + 1 : Nat) : Int) == 0) = false := beq_eq_false_iff_ne.2 (by omega)
        have e1 : ((m1 + 1 : Nat) : Int) - 1 = (m1 : Int) := by omega
        have p1 : (m1 : Int) < ((m1 + 1 : Nat) : Int) := by omega
        have w1 : IntKind.i64.wrap (m1 : Int) = (m1 : Int) := by rw [IntKind.wrap_i64]; omega
        have p2 : (m1 : Int) < (m1 : Int) + 1 := by omega
        clear hj hy
        by_cases hgt : x > y
        · go_wp2_with fail
          go_quiet (fail)
          go_wp2_with (at_builtin; refine wpList_pushD el_int rfl (.tmp 34) (.tmp 36) rfl w2.heap.size _ (m1 + 1) _ ((show (wr.drewN nq).ownsRow w2.heap.size 3 1 (.slice (some ⟨go, 0, none⟩) (m1 + 1) c4) (m1 + 1) ((natS r).map (Value.int .i64)) from HO.out.2.2).alloc _) rfl wr.heap.size 1 _ rfl (new_cell rfl) rfl (by omega) (by omega) (by simp; omega) ?_; intro v6 w6 hown6 hg6 hl6)
          go_roundw
          case rel => exact ⟨k + 1, (m1 + 1) + 1, r ++ [i], by omega, by go_num, by omega, Lib.hid ⟨by rw [List.length_append, HO.out.1]; rfl, fun z hz => by
            rcases List.mem_append.1 hz with hz | hz
            · exact HO.out.2.1 z hz
            · rw [List.mem_singleton.1 hz]; exact hpl, by rw [HE.out, List.map_append]; exact hown6⟩, Lib.hid (below_push (Below.alloc (below_drewN HB.out nq) hz _) ((show (wr.drewN nq).ownsRow w2.heap.size 3 1 (.slice (some ⟨go, 0, none⟩) (m1 + 1) c4) (m1 + 1) ((natS r).map (Value.int .i64)) from HO.out.2.2).alloc _) (Nat.le_refl _) (by simp; omega) hg6)⟩
          case measure => simp [intOf]; omega
        · have t9 : decide (y < x) = false := decide_eq_false hgt
          go_wp2_with fail
          go_quiet (fail)
          go_wp2
          go_roundw
          case rel => exact ⟨k + 1, m1 + 1, r, by omega, by go_num, by omega, Lib.hid ⟨HO.out.1, HO.out.2.1, HO.out.2.2⟩, Lib.hid (below_drewN HB.out _)⟩
          case measure => simp [intOf]; omega
    · obtain rfl : k = n := by omega
      obtain ⟨A4, c4, rfl⟩ := own_shape HO.out.2.2
      go_wp2
      go_ret
      exact ⟨_, m, r, rfl, hmk, HO.out.1, HO.out.2.1, ownS_base HO.out.2.2 (by omega), HB2.out.trans (HB.out.mono hz2)⟩
set_option maxHeartbeats 1000000 in
theorem stabApart_any (v : Value) (n : Nat) (l : List Int) (w : World) (B : Nat) (hB : B ≤ w.heap.size) (h : IsFlat 2 w B v n l) :
    Calls Try.prog 23 #[v] w fun e w' => ∃ A m c, e = .returned (.tuple #[.slice A m c, .int .i64 (spCode n l)]) ∧ (spCode n l ≠ 0 → m = 0) ∧ Below w.heap.size w w' := by
  have HC := Lib.hid (stabCheck_any v n l w B hB h)
  by_cases h0 : spCode n l = 0
  rotate_left
  · obtain ⟨A, c, rfl, hc, hm, hn, hl, hr, hw⟩ := h
    generalize spCode n l = cc at *
    have t0 : (cc != 0) = true := bne_iff_ne.2 h0
    clear hl hr hw
    go_enter Try.func23, Try.ntmps23
    go_wp2_with (go_at_call 53; refine (HC.out).mono ?_; rintro e w1 ⟨rfl, hb1⟩)
    go_ret2
    exact ⟨none, 0, 0, rfl, fun _ => rfl, hb1⟩
  · have HP := Lib.hid fun W (hb : Below w.heap.size w W) => stabApartIn_any v n l W B (Nat.le_trans hB hb.size) (h.below (hb.mono hB)) (spCode_ok h0).1
    obtain ⟨A, c, rfl, hc, hm, hn, hl, hr, hw⟩ := h
    rw [h0] at HC ⊢
    clear hl hr hw h0
    go_enter Try.func23, Try.ntmps23
    go_wp2_with (first
      | (go_at_call 53; refine (HC.out).mono ?_; rintro e w1 ⟨rfl, hb1⟩; have HB1 := Lib.hid hb1; clear hb1)
      | (go_at_call 58; refine (HP.out _ HB1.out).mono ?_; rintro e w2 ⟨v2, m2, r2, rfl, _, _, _, ho2, hb2⟩; have HB2 := Lib.hid (HB1.out.trans (hb2.mono HB1.out.size)); obtain ⟨A2, c2, rfl⟩ := own_shape ho2; clear hb2 ho2))
    go_ret2
    exact ⟨A2, m2, c2, rfl, fun h => absurd rfl h, HB2.out⟩
set_option maxHeartbeats 4000000 in
theorem stabNails_any (v : Value) (n : Nat) (l : List Int) (w : World) (B : Nat) (hB : B ≤ w.heap.size) (h : IsFlat 2 w B v n l) :
    Calls Try.prog 24 #[v] w fun e w' => ∃ A m c, e = .returned (.tuple #[.slice A m c, .int .i64 (spCode n l)]) ∧ (spCode n l ≠ 0 → m = 0) ∧ Below w.heap.size w w' := by
  have HC := Lib.hid (stabCheck_any v n l w B hB h)
  by_cases h0 : spCode n l = 0
  rotate_left
  · obtain ⟨A, c, rfl, hc, hm, hn, hl, hr, hw⟩ := h
    generalize spCode n l = cc at *
    have t0 : (cc != 0) = true := bne_iff_ne.2 h0
    clear hl hr hw
    go_enter Try.func24, Try.ntmps24
    go_wp2_with (go_at_call 53; refine (HC.out).mono ?_; rintro e w1 ⟨rfl, hb1⟩)
    go_ret2
    exact ⟨none, 0, 0, rfl, fun _ => rfl, hb1⟩
  · have hn100 := (spCode_ok h0).1
    have HP := Lib.hid fun W (hb : Below w.heap.size w W) => stabApartIn_any v n l W B (Nat.le_trans hB hb.size) (h.below (hb.mono hB)) (spCode_ok h0).1
    obtain ⟨A, c, rfl, hc, hm, hn, hl, hr, hw⟩ := h
    rw [h0] at HC ⊢
    have HLn := Lib.hid hl
    have HRd := Lib.hid hr
    clear hl hr hw h0
    go_enter Try.func24, Try.ntmps24
    go_wp2_with (first
      | (go_at_call 53; refine (HC.out).mono ?_; rintro e w1 ⟨rfl, hb1⟩; have HB1 := Lib.hid hb1; clear hb1)
      | (go_at_call 58; refine (HP.out _ HB1.out).mono ?_; rintro e w2 ⟨v2, m2, r2, rfl, hm2, hl2, hr2, ho2, hb2⟩; have HB2 := Lib.hid (HB1.out.trans (hb2.mono HB1.out.size)); obtain ⟨A2, c2, rfl⟩ := own_shape ho2; have HO2 := Lib.hid ho2; have HR2 := Lib.hid hr2; have HL2 := Lib.hid hl2; clear hb2 ho2 hr2 hl2))
    have hz2 := HB2.out.size
    go_loopw [5, 7, 16] (fun ov _ iv wr => ∃ (k : Nat) (r : List Int), k ≤ m2 ∧ iv = .int .i64 k ∧ Hid (wr.ownsRow w2.heap.size 3 1 ov k (r.map (Value.int .i64))) ∧ Hid (Below w2.heap.size w2 wr)) (fun _ _ iv _ => m2 - (intOf iv).toNat)
    case atStart => exact ⟨0, [], by omega, rfl, Lib.hid (World.ownsRow_nil _ _ _ _), Lib.hid (Below.refl _ _)⟩
    case round =>
      obtain ⟨k, r, hk, rfl, HO, HB⟩ := hrel
      obtain ⟨A4, c4, rfl⟩ := own_shape HO.out
      by_cases hlt : k < m2
      · obtain ⟨bk, off, rfl, hbk, hcells⟩ := flat_cells HRd.out HLn.out (by omega) (by omega)
        have hz := HB.out.size
        have hpl : r2.getD k 0 < n := by
          have := HL2.out
          rw [List.getD_eq_getElem?_getD, List.getElem?_eq_getElem (by omega)]
          exact HR2.out _ (List.getElem_mem _)
        obtain ⟨ga, ca, hva, hba, hlta⟩ := HO2.out.form (by omega)
        injection hva with hA2 _ hc2
        subst hA2 hc2
        have b0 : wr.cell? ⟨ga, k, none⟩ = some (.int .i64 ((r2.getD k 0 : Nat) : Int)) := by
          refine (HB.out.cell (p := ⟨ga, k, none⟩) hlta).trans ?_
          rw [HO2.out.cellAt k (by omega), List.getElem?_map]
          have h1 := natS_at r2 k
          rw [List.getD_eq_getElem?_getD, List.getElem?_eq_getElem (by rw [natS_len, HL2.out]; exact hlt)] at h1
          rw [List.getElem?_eq_getElem (by rw [natS_len, HL2.out]; exact hlt), ← h1]; rfl
        obtain ⟨i, hi⟩ : ∃ i, i = r2.getD k 0 := ⟨_, rfl⟩
        rw [← hi] at b0 hpl
        have l0 := (HB.out.cell (p := ⟨bk, off + (i * 2 + 1), none⟩) (by show bk < _; omega)).trans ((HB2.out.cell (p := ⟨bk, off + (i * 2 + 1), none⟩) (by show bk < _; omega)).trans (hcells (i * 2 + 1) (by omega)))
        rw [show off + (i * 2 + 1) = off + i * 2 + 1 from by omega] at l0
        obtain ⟨y, hy⟩ : ∃ y, y = l.getD (i * 2 + 1) 0 := ⟨_, rfl⟩
        rw [← hy] at l0
        have pi : (i : Int) < (n : Int) := by omega
        clear hcells hi hy
        go_wp2_with (at_builtin; refine wpList_pushD el_int rfl (.tmp 20) (.tmp 26) rfl w2.heap.size _ k _ (HO.out.alloc _) rfl wr.heap.size 1 _ rfl (new_cell rfl) rfl (by omega) (by omega) (by simp; omega) ?_; intro v6 w6 hown6 hg6 hl6)
        go_roundw
        case rel => exact ⟨k + 1, r ++ [y], by omega, by go_num, Lib.hid (by rw [List.map_append]; exact hown6), Lib.hid (below_push (HB.out.alloc hz _) (HO.out.alloc _) (Nat.le_refl _) (by simp; omega) hg6)⟩
        case measure => simp [intOf]; omega
      · obtain rfl : k = m2 := by omega
        go_wp2
        go_ret2
        exact ⟨_, _, _, rfl, fun h => absurd rfl h, HB2.out.trans (HB.out.mono hz2)⟩
end Go.Proofs.Ytgfddolchachkaa
