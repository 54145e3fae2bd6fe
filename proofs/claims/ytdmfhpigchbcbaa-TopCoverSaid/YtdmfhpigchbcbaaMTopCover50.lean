/-
  Texts of one claim behind each other. Conditions: none of its own.
-/
import Derived.Test.YtdmfhpigchbcbaaMTopCover39
import Derived.Test.YtdmfhpigchbcbaaMTopCover45
import Derived.Test.YtdmfhpigchbcbaaMTopCover49
import Derived.Test.YtdmfhpigchbcbaaMTopCover03
import Derived.Test.YtdmfhpigchbcbaaMTopCover00
/-
  Contracts of grid.Count and of the reference's GridCount. Conditions: the points can be read as data.
-/
namespace Go.Dam
open Go Go.RowKit Go.Dam.Stable
/-- What Count answers. -/
def CountR (l : List Int) (n : Nat) (x0 y0 x1 y1 : Int) (c : Int) : Prop := (ptCode n l = 0 → c = (cntIn l n x0 y0 x1 y1 : Int)) ∧ (ptCode n l ≠ 0 → c = 0)
theorem CountR.uniq {l : List Int} {n : Nat} {x0 y0 x1 y1 c d : Int} (h : CountR l n x0 y0 x1 y1 c) (g : CountR l n x0 y0 x1 y1 d) : c = d := by
  by_cases h0 : ptCode n l = 0
  · rw [h.1 h0, g.1 h0]
  · rw [h.2 h0, g.2 h0]
theorem cntIn_le (l : List Int) (n : Nat) (x0 y0 x1 y1 : Int) : cntIn l n x0 y0 x1 y1 ≤ n := by
  unfold cntIn; exact Nat.le_trans (List.length_filter_le _ _) (by rw [List.length_range]; exact Nat.le_refl _)
theorem cntIn_0 (l : List Int) (x0 y0 x1 y1 : Int) : cntIn l 0 x0 y0 x1 y1 = 0 := by have := cntIn_le l 0 x0 y0 x1 y1; omega
theorem stab_cnt {l : List Int} {n : Nat} {x0 y0 x1 y1 : Int} {lt : Int → Int → Bool} {r : List Int} (h : StabR lt (natL ((List.range n).filter (inQ l x0 y0 x1 y1))) r) : r.length = cntIn l n x0 y0 x1 y1 := by
  rw [h.len, natL_len]; unfold cntIn; rfl
end Go.Dam
namespace Go.Proofs.Ytdmfhpigchbcbaa
open Go Go.RowKit Go.Dam Go.Dam.Stable
set_option linter.unusedVariables false
set_option maxRecDepth 100000 in
set_option maxHeartbeats 4000000 in
theorem gridCount_any (x0 y0 x1 y1 : Int) (v : Value) (n : Nat) (l : List Int) (w : World) (B : Nat) (hB : B ≤ w.heap.size) (h : IsFlat 3 w B v n l) :
    Calls Try.prog 16 #[v, .agg #[.int .i64 x0, .int .i64 y0, .int .i64 x1, .int .i64 y1]] w fun e w' => (∃ c, e = .returned (.tuple #[.int .i64 c, .int .i64 (ptCode n l)]) ∧ CountR l n x0 y0 x1 y1 c) ∧ Below w.heap.size w w' := by
  have HB0 := Lib.hid ((Below.refl w.heap.size w).alloc (Nat.le_refl _) (.cells #[.int .i64 x0, .int .i64 y0, .int .i64 x1, .int .i64 y1] 51))
  have HK := Lib.hid (Blk.new w 51 #[.int .i64 x0, .int .i64 y0, .int .i64 x1, .int .i64 y1])
  have HP := Lib.hid (gridCheck_any v n l (w.alloc (.cells #[.int .i64 x0, .int .i64 y0, .int .i64 x1, .int .i64 y1] 51)) B (by simp; omega) (h.below (HB0.out.mono hB)))
  have HBu := Lib.hid fun (h0 : ptCode n l = 0) w1 (hb : Below w.heap.size w w1) => gridBuild_any v n l w1 B (Nat.le_trans hB hb.size) (h.below (hb.mono hB)) (pt_coords h0).1
  have hB0 := HB0.out.size
  by_cases h0 : ptCode n l = 0
  · have HW0 := Lib.hid (HBu.out h0)
    have h150 := (pt_coords h0).1
    rw [h0] at HP
    by_cases hn0 : n = 0
    · subst hn0
      obtain ⟨A, c, rfl, _⟩ := h
      clear HBu HW0
      go_enter Try.func16, Try.ntmps16
      go_wp2_with (go_at_call 34; refine (HP.out).mono ?_; rintro e w1 ⟨rfl, hb1⟩)
      go_ret2
      exact ⟨⟨0, by rw [h0]; rfl, fun _ => by rw [cntIn_0]; rfl, fun _ => rfl⟩, HB0.out.trans (hb1.mono HB0.out.size)⟩
    obtain ⟨A, c, rfl, _⟩ := h
    have t1 : ((n : Int) == 0) = false := beq_eq_false_iff_ne.2 (by omega)
    have t2 : decide (n = 0) = false := decide_eq_false hn0
    have hpos : 0 < n := by omega
    clear HBu hn0
    go_enter Try.func16, Try.ntmps16
    go_upto_region 6 with (go_at_call 34; refine (HP.out).mono ?_; rintro e w1 ⟨rfl, hb1⟩)
    have HB1 := Lib.hid (HB0.out.trans (hb1.mono HB0.out.size))
    have HK1 := Lib.hid (HK.out.below hb1 (by simp))
    clear hb1
    go_upto_region 7 with (go_at_call 35; refine (HW0.out _ HB1.out).mono ?_; rintro e w2 ⟨⟨g, rn, vals, rs, wss, cc, rfl, hR, hI, hfar⟩, hb2⟩)
    have hzb2 := hb2.size
    have HRR := Lib.hid hR
    have HII := Lib.hid hI
    have HB2 := Lib.hid (HB1.out.trans (hb2.mono HB1.out.size))
    have HK2 := Lib.hid (HK1.out.below hb2 HK1.out.lt)
    have k0 := (HK2.out.cell 0).trans rfl
    have k1 := (HK2.out.cell 1).trans rfl
    have k2 := (HK2.out.cell 2).trans rfl
    have k3 := (HK2.out.cell 3).trans rfl
    clear hb2 hR hI hfar
    go_upto_region 8 with (go_at_call 36; refine (columns_any x0 y0 x1 y1 _ g n l rn _ (Nat.le_refl _) HII.out.two (HRR.out.1.ordX h150)).mono ?_; rintro e w3 ⟨⟨a, b, rfl, hab⟩, hb3⟩)
    have HAB := Lib.hid hab
    have hle := cols_le hab
    have HB3 := Lib.hid (HB2.out.trans (hb3.mono HB2.out.size))
    have HK3 := Lib.hid (HK2.out.below hb3 HK2.out.lt)
    have HI3 := Lib.hid ((HII.out.below hb3).more hb3.size)
    have HE := Lib.hid (count_eq (y0 := y0) (y1 := y1) HRR.out.1 hab)
    have hn1 := belowN_le l rn n a b y1 true
    have hn2 := belowN_le l rn n a b y0 false
    clear hab hb3 k0 k1 k2 k3
    have k1 := (HK3.out.cell 1).trans rfl
    have k3 := (HK3.out.cell 3).trans rfl
    have HBl := Lib.hid fun y at_ (W : World) (hW : Below w3.heap.size w3 W) => gridBelow_any y at_ a b _ g n l rn vals rs wss cc W hW.size (HI3.out.below hW) HRR.out hpos h150 hle.1 hle.2
    have hwr : IntKind.i64.wrap ((belowN l rn n a b y1 true : Int) - (belowN l rn n a b y0 false : Int)) = (belowN l rn n a b y1 true : Int) - (belowN l rn n a b y0 false : Int) := IntWalk.i64_in _ (by omega)
    go_region_held3 (fun w' => w'.cell? ⟨w.heap.size, 1, none⟩ = some (.int .i64 y0) ∧ w'.cell? ⟨w.heap.size, 3, none⟩ = some (.int .i64 y1))
      (first
        | exact ⟨k1, k3⟩
        | exact ⟨kept_call hb4 (cell_lt k1) k1, kept_call hb4 (cell_lt k3) k3⟩
        | exact ⟨kept_call hb5 (cell_lt (kept_call hb4 (cell_lt k1) k1)) (kept_call hb4 (cell_lt k1) k1), kept_call hb5 (cell_lt (kept_call hb4 (cell_lt k3) k3)) (kept_call hb4 (cell_lt k3) k3)⟩)
      (first
        | (go_at_call 37; refine (HBl.out _ _ _ (Below.refl _ _).drew).mono ?_; rintro e w4 ⟨rfl, hb4⟩)
        | (go_at_call 37; refine (HBl.out _ _ _ ((Below.refl _ _).drew.trans hb4)).mono ?_; rintro e w5 ⟨rfl, hb5⟩))
    all_goals go_wp2_with fail
    all_goals go_ret2
    all_goals have HX := HE.out
    all_goals exact ⟨⟨_, by rw [h0]; rfl, fun _ => by omega, fun hc => absurd h0 hc⟩, (HB3.out.drew.trans (hb4.mono HB3.out.size)).trans (hb5.mono (Nat.le_trans HB3.out.size hb4.size))⟩
  · have HE : Hid (CountR l n x0 y0 x1 y1 0) := Lib.hid ⟨fun hc => absurd hc h0, fun _ => rfl⟩
    clear HBu h
    generalize ptCode n l = cc at *
    have t0 : (cc != 0) = true := bne_iff_ne.2 h0
    go_enter Try.func16, Try.ntmps16
    go_wp2_with (go_at_call 34; refine (HP.out).mono ?_; rintro e w1 ⟨rfl, hb1⟩)
    go_ret2
    exact ⟨⟨0, rfl, HE.out⟩, HB0.out.trans (hb1.mono HB0.out.size)⟩
end Go.Proofs.Ytdmfhpigchbcbaa

/-
  Contracts of morton.Code and morton.Back (with fits, spread and gather). Conditions: the arguments are ints.
-/
namespace Go.Dam
/-- What Code answers. -/
def CodeR (x y r c : Int) : Prop := (0 ≤ x ∧ x ≤ 1048576 ∧ 0 ≤ y ∧ y ≤ 1048576 ∧ r = (zipB x.toNat y.toNat 21 : Nat) ∧ c = 0) ∨ ((x < 0 ∨ y < 0 ∨ 1048576 < x ∨ 1048576 < y) ∧ r = 0 ∧ c = 2)
theorem CodeR.ex (x y : Int) : ∃ r c, CodeR x y r c := by
  by_cases h : x < 0 ∨ y < 0 ∨ 1048576 < x ∨ 1048576 < y
  · exact ⟨_, _, .inr ⟨h, rfl, rfl⟩⟩
  · exact ⟨_, _, .inl ⟨by omega, by omega, by omega, by omega, rfl, rfl⟩⟩
/-- What Back answers. -/
def BackR (code a b c : Int) : Prop :=
  (∃ k : Nat, code = k ∧ evens k 32 ≤ 1048576 ∧ evens (k / 2) 32 ≤ 1048576 ∧ a = (evens k 32 : Nat) ∧ b = (evens (k / 2) 32 : Nat) ∧ c = 0) ∨
  ((code < 0 ∨ ∃ k : Nat, code = k ∧ (1048576 < evens k 32 ∨ 1048576 < evens (k / 2) 32)) ∧ a = 0 ∧ b = 0 ∧ c = 2)
theorem BackR.ex (code : Int) : ∃ a b c, BackR code a b c := by
  by_cases h : code < 0
  · exact ⟨_, _, _, .inr ⟨.inl h, rfl, rfl, rfl⟩⟩
  · obtain ⟨k, rfl⟩ := Int.eq_ofNat_of_zero_le (by omega : 0 ≤ code)
    by_cases h : 1048576 < evens k 32 ∨ 1048576 < evens (k / 2) 32
    · exact ⟨_, _, _, .inr ⟨.inr ⟨k, rfl, h⟩, rfl, rfl, rfl⟩⟩
    · exact ⟨_, _, _, .inl ⟨k, rfl, by omega, by omega, rfl, rfl, rfl⟩⟩
end Go.Dam
namespace Go.Proofs.Ytdmfhpigchbcbaa
open Go Go.RowKit Go.Dam
set_option linter.unusedVariables false
set_option maxHeartbeats 400000 in
theorem mortonFits_yes (x : Int) (w : World) (h0 : 0 ≤ x) (h1 : x ≤ 1048576) : Calls Try.prog 38 #[.int .i64 x] w fun e w' => e = .returned (.bool true) ∧ w = w' := by
  go_enter Try.func38, Try.ntmps38
  go_wp2
  go_ret
  exact ⟨ret_bool (by simp <;> omega), rfl⟩
set_option maxHeartbeats 400000 in
theorem mortonFits_no (x : Int) (w : World) (h : x < 0 ∨ 1048576 < x) : Calls Try.prog 38 #[.int .i64 x] w fun e w' => e = .returned (.bool false) ∧ w = w' := by
  rcases h with h | h
  · go_enter Try.func38, Try.ntmps38
    go_wp2
    go_ret
    exact ⟨ret_bool (by simp <;> omega), rfl⟩
  · have h0 : 0 ≤ x := by omega
    go_enter Try.func38, Try.ntmps38
    go_wp2
    go_ret
    exact ⟨ret_bool (by simp <;> omega), rfl⟩
set_option maxHeartbeats 400000 in
theorem spread_any (n : Nat) (w : World) (hn : n < 2097152) : Calls Try.prog 39 #[.int .i64 n] w fun e w' => e = .returned (.int .i64 (spN n : Nat)) ∧ w = w' := by
  have hE := spN_eq n
  obtain ⟨o1, a1, l1, c1, d1, e1, f1⟩ := sp_step 16 281470681808895 n 65536 281470681808895 rfl rfl (by decide) (by omega) (by omega)
  have g1 := spS_lt 16 281470681808895 n 21 (by omega)
  rw [← f1] at g1
  obtain ⟨o2, a2, l2, c2, d2, e2, f2⟩ := sp_step 8 71777214294589695 a1 256 71777214294589695 rfl rfl (by decide) (by omega) (by omega)
  have g2 := spS_lt 8 71777214294589695 a1 37 (by omega)
  rw [← f2] at g2
  obtain ⟨o3, a3, l3, c3, d3, e3, f3⟩ := sp_step 4 1085102592571150095 a2 16 1085102592571150095 rfl rfl (by decide) (by omega) (by omega)
  have g3 := spS_lt 4 1085102592571150095 a2 45 (by omega)
  rw [← f3] at g3
  obtain ⟨o4, a4, l4, c4, d4, e4, f4⟩ := sp_step 2 3689348814741910323 a3 4 3689348814741910323 rfl rfl (by decide) (by omega) (by omega)
  have g4 := spS_lt 2 3689348814741910323 a3 49 (by omega)
  rw [← f4] at g4
  obtain ⟨o5, a5, l5, c5, d5, e5, f5⟩ := sp_step 1 6148914691236517205 a4 2 6148914691236517205 rfl rfl (by decide) (by omega) (by omega)
  have HE : Hid (a5 = spN n) := Lib.hid (by rw [hE, ← f1, ← f2, ← f3, ← f4, ← f5])
  clear hE f1 f2 f3 f4 f5
  go_enter Try.func39, Try.ntmps39
  go_wp2
  go_ret
  exact ⟨ret_int (by rw [← HE.out]), rfl⟩
set_option maxHeartbeats 400000 in
theorem code_any (x y r c : Int) (w : World) (hR : CodeR x y r c) : Calls Try.prog 18 #[.int .i64 x, .int .i64 y] w fun e w' => e = .returned (.tuple #[.int .i64 r, .int .i64 c]) ∧ w = w' := by
  rcases hR with ⟨h1, h2, h3, h4, rfl, rfl⟩ | ⟨h, rfl, rfl⟩
  · obtain ⟨a, rfl⟩ := Int.eq_ofNat_of_zero_le h1
    obtain ⟨b, rfl⟩ := Int.eq_ofNat_of_zero_le h3
    simp only [Int.toNat_natCast]
    have s1 := Lib.hid fun W => spread_any a W (by omega)
    have s2 := Lib.hid fun W => spread_any b W (by omega)
    have hz := code_or a b (by omega) (by omega)
    have l2 := spN_lt b (by omega)
    have HE : Hid (zipB a b 21 = zipB a b 21) := Lib.hid rfl
    generalize zipB a b 21 = z at *
    generalize spN a = p at *
    generalize spN b = q at *
    go_enter Try.func18, Try.ntmps18
    go_wp2_with (first
      | (go_at_call 38; refine (mortonFits_yes _ _ (by omega) (by omega)).mono ?_; rintro e w1 ⟨rfl, rfl⟩)
      | (go_at_call 39; (with_reducible refine (s1.out _).mono ?_); rintro e w1 ⟨rfl, rfl⟩)
      | (go_at_call 39; (with_reducible refine (s2.out _).mono ?_); rintro e w1 ⟨rfl, rfl⟩))
    go_ret2
    exact ⟨rfl, rfl⟩
  · by_cases hx : x < 0 ∨ 1048576 < x
    · clear h
      go_enter Try.func18, Try.ntmps18
      go_wp2_with (go_at_call 38; refine (mortonFits_no _ _ hx).mono ?_; rintro e w1 ⟨rfl, rfl⟩)
      go_ret2
      exact ⟨rfl, rfl⟩
    · have hy : y < 0 ∨ 1048576 < y := by omega
      have h0 : 0 ≤ x := by omega
      have h1 : x ≤ 1048576 := by omega
      clear h hx
      go_enter Try.func18, Try.ntmps18
      go_wp2_with (first
        | (go_at_call 38; (with_reducible refine (mortonFits_yes x _ h0 h1).mono ?_); rintro e w1 ⟨rfl, rfl⟩)
        | (go_at_call 38; (with_reducible refine (mortonFits_no y _ hy).mono ?_); rintro e w1 ⟨rfl, rfl⟩))
      go_ret2
      exact ⟨rfl, rfl⟩
end Go.Proofs.Ytdmfhpigchbcbaa
