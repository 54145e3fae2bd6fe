/-
  Texts of one claim behind each other. Conditions: none of its own.
-/
import Derived.Test.YthbopbbpogddlaaMSkyUnders53
/-
  Contracts of sky.Under and of the reference's SkyUnder. Conditions: the points can be read as data.
-/
namespace Go.Dam
open Go Go.RowKit Go.Dam.Stable
set_option linter.unusedVariables false
/-- Is the point at j above the one at i? -/
def aboveAt (l : List Int) (j i : Nat) : Bool := aboveB (l.getD (j * 3) 0) (l.getD (j * 3 + 1) 0) (l.getD (i * 3) 0) (l.getD (i * 3 + 1) 0)
/-- How many points are under one. -/
def underN (l : List Int) (n j : Nat) : Nat := (List.range n).countP fun i => aboveAt l j i
theorem underN_step (l : List Int) (j i : Nat) : (List.range (i + 1)).countP (fun i => aboveAt l j i) = (List.range i).countP (fun i => aboveAt l j i) + (if aboveAt l j i then 1 else 0) := by
  rw [List.range_succ, List.countP_append, List.countP_singleton]
/-- What Under answers. -/
def UnderR (l : List Int) (n : Nat) (i r cc : Int) : Prop :=
  (ptCode n l ≠ 0 ∧ r = 0 ∧ cc = ptCode n l) ∨ (ptCode n l = 0 ∧ i < 0 ∧ r = 0 ∧ cc = 2) ∨ (ptCode n l = 0 ∧ ¬ i < 0 ∧ (n : Int) ≤ i ∧ r = 0 ∧ cc = 2) ∨ (ptCode n l = 0 ∧ ∃ j : Nat, i = j ∧ j < n ∧ r = (underN l n j : Int) ∧ cc = 0)
theorem UnderR.ex (l : List Int) (n : Nat) (i : Int) : ∃ r cc, UnderR l n i r cc := by
  by_cases h : ptCode n l = 0
  · by_cases h1 : i < 0
    · exact ⟨_, _, .inr (.inl ⟨h, h1, rfl, rfl⟩)⟩
    · by_cases h2 : (n : Int) ≤ i
      · exact ⟨_, _, .inr (.inr (.inl ⟨h, h1, h2, rfl, rfl⟩))⟩
      · exact ⟨_, _, .inr (.inr (.inr ⟨h, i.toNat, by omega, by omega, rfl, rfl⟩))⟩
  · exact ⟨_, _, .inl ⟨h, rfl, rfl⟩⟩
theorem under_eq {l : List Int} {n j : Nat} (h : ptCode n l = 0) (hj : j < n) :
    (cntIn l n (-1048576) (-1048576) (l.getD (j * 3) 0) (l.getD (j * 3 + 1) 0) : Int) - (cntIn l n (l.getD (j * 3) 0) (l.getD (j * 3 + 1) 0) (l.getD (j * 3) 0) (l.getD (j * 3 + 1) 0) : Int) = (underN l n j : Int) := by
  unfold cntIn underN
  rw [← List.countP_eq_length_filter, ← List.countP_eq_length_filter]
  have := countP_sub (p := inP l (-1048576) (-1048576) (l.getD (j * 3) 0) (l.getD (j * 3 + 1) 0)) (q := inP l (l.getD (j * 3) 0) (l.getD (j * 3 + 1) 0) (l.getD (j * 3) 0) (l.getD (j * 3 + 1) 0)) (s := fun i => aboveAt l j i) (List.range n) fun i hi => by
    have hi := List.mem_range.1 hi
    have a := ((pt_coords h).2 (i * 3) (by omega)).1
    have b := ((pt_coords h).2 (i * 3 + 1) (by omega)).1
    unfold inP inR aboveAt aboveB
    generalize l.getD (i * 3) 0 = x at *
    generalize l.getD (i * 3 + 1) 0 = y at *
    generalize l.getD (j * 3) 0 = px at *
    generalize l.getD (j * 3 + 1) 0 = py at *
    simp only [Bool.and_eq_true, Bool.or_eq_true, decide_eq_true_eq]
    omega
  omega
attribute [irreducible] underN aboveAt
end Go.Dam
namespace Go.Proofs.Ythbopbbpogddlaa
open Go Go.RowKit Go.Dam Go.Dam.Stable
set_option linter.unusedVariables false
set_option maxHeartbeats 4000000 in
theorem skyUnder_any (i r cc : Int) (v : Value) (n : Nat) (l : List Int) (w : World) (B : Nat) (hB : B ≤ w.heap.size) (h : IsFlat 3 w B v n l) (hi : I64 i) (hR : UnderR l n i r cc) :
    Calls Try.prog 9 #[v, .int .i64 i] w fun e w' => e = .returned (.tuple #[.int .i64 r, .int .i64 cc]) ∧ Below w.heap.size w w' := by
  have HP := Lib.hid (gridCheck_any v n l w B hB h)
  have HC := Lib.hid fun x0 y0 x1 y1 w1 (hb : Below w.heap.size w w1) => gridCount_any x0 y0 x1 y1 v n l w1 B (Nat.le_trans hB hb.size) (h.below (hb.mono hB))
  obtain ⟨A, c, rfl, hc, hm, hn, hl, hr, hw⟩ := h
  unfold I64 at hi
  rcases hR with ⟨h0, rfl, rfl⟩ | ⟨h0, h1, rfl, rfl⟩ | ⟨h0, h1, h2, rfl, rfl⟩ | ⟨h0, j, rfl, hj, rfl, rfl⟩
  · clear HC
    generalize ptCode n l = cc at *
    have t0 : (cc != 0) = true := bne_iff_ne.2 h0
    go_enter Try.func9, Try.ntmps9
    go_wp2_with (go_at_call 13; refine (HP.out).mono ?_; rintro e w1 ⟨rfl, hb1⟩)
    go_ret2
    exact ⟨rfl, hb1⟩
  · clear HC
    rw [h0] at HP
    clear h0 hr hw hl
    go_enter Try.func9, Try.ntmps9
    go_wp2_with (go_at_call 13; refine (HP.out).mono ?_; rintro e w1 ⟨rfl, hb1⟩)
    go_ret2
    exact ⟨rfl, hb1⟩
  · clear HC
    rw [h0] at HP
    have t1 : decide (i < 0) = false := decide_eq_false h1
    clear h0 hr hw hl
    go_enter Try.func9, Try.ntmps9
    go_wp2_with (go_at_call 13; refine (HP.out).mono ?_; rintro e w1 ⟨rfl, hb1⟩)
    go_ret2
    exact ⟨rfl, hb1⟩
  · have HE := Lib.hid (under_eq h0 hj)
    have h150 := (pt_coords h0).1
    have HR1 := Lib.hid h0
    rw [h0] at HP
    obtain ⟨bk, off, rfl, hbk, hcs⟩ := flat_cells hr hl (by omega) (by omega)
    have y0' := hcs (j * 3) (by omega)
    have y1' := hcs (j * 3 + 1) (by omega)
    have y2' := hcs (j * 3 + 2) (by omega)
    rw [← Nat.add_assoc] at y1' y2'
    obtain ⟨p0, hp0⟩ : ∃ p, l.getD (j * 3) 0 = p := ⟨_, rfl⟩
    obtain ⟨p1, hp1⟩ : ∃ p, l.getD (j * 3 + 1) 0 = p := ⟨_, rfl⟩
    obtain ⟨p2, hp2⟩ : ∃ p, l.getD (j * 3 + 2) 0 = p := ⟨_, rfl⟩
    rw [hp0] at y0'
    rw [hp1] at y1'
    rw [hp2] at y2'
    rw [hp0, hp1] at HE
    have t1 : ¬ (j : Int) < 0 := by omega
    have t2 : ¬ (n : Int) ≤ (j : Int) := by omega
    have i1 : (j : Int) < (n : Int) := by omega
    have hle1 := cntIn_le l n (-1048576) (-1048576) p0 p1
    have hle2 := cntIn_le l n p0 p1 p0 p1
    have HC1 := Lib.hid (HC.out (-1048576) (-1048576) p0 p1)
    have HC2 := Lib.hid (HC.out p0 p1 p0 p1)
    obtain ⟨N1, hN1⟩ : ∃ N, cntIn l n (-1048576) (-1048576) p0 p1 = N := ⟨_, rfl⟩
    obtain ⟨N2, hN2⟩ : ∃ N, cntIn l n p0 p1 p0 p1 = N := ⟨_, rfl⟩
    rw [hN1] at hle1
    rw [hN2] at hle2
    rw [hN1, hN2] at HE
    have HN1 := Lib.hid hN1
    have HN2 := Lib.hid hN2
    have HF1 : Hid (∀ (c : Int), CountR l n (-1048576) (-1048576) p0 p1 c → c = (N1 : Int)) := Lib.hid fun c hc => by rw [hc.1 HR1.out, HN1.out]
    have HF2 : Hid (∀ (c : Int), CountR l n p0 p1 p0 p1 c → c = (N2 : Int)) := Lib.hid fun c hc => by rw [hc.1 HR1.out, HN2.out]
    have HPt : Hid (ptCode n l = 0) := Lib.hid h0
    clear hp0 hp1 hp2 hcs HC h0 hN1 hN2 hr hw hl
    go_enter Try.func9, Try.ntmps9
    go_upto_region 6 with (go_at_call 13; refine (HP.out).mono ?_; rintro e w1 ⟨rfl, hb1⟩)
    have HB1 := Lib.hid hb1
    have o0 := (hb1.cell (p := ⟨bk, off + j * 3, none⟩) (by show bk < _; omega)).trans y0'
    have o1 := (hb1.cell (p := ⟨bk, off + j * 3 + 1, none⟩) (by show bk < _; omega)).trans y1'
    have o2 := (hb1.cell (p := ⟨bk, off + j * 3 + 2, none⟩) (by show bk < _; omega)).trans y2'
    clear hb1 y0' y1' y2'
    go_upto_region 8 with fail
    have HK := Lib.hid (Blk.new w1 42 #[.int .i64 p0, .int .i64 p1, .int .i64 p2])
    have HB2 := Lib.hid (HB1.out.alloc HB1.out.size (.cells #[.int .i64 p0, .int .i64 p1, .int .i64 p2] 42))
    have hz1 := HB1.out.size
    clear o0 o1 o2
    generalize w1.alloc (.cells #[.int .i64 p0, .int .i64 p1, .int .i64 p2] 42) = W2 at *
    have k0 := (HK.out.cell 0).trans rfl
    have k1 := (HK.out.cell 1).trans rfl
    go_upto_region 9 with (go_at_call 19; refine (HC1.out _ HB2.out).mono ?_; rintro e w3 ⟨⟨c1, rfl, hc1⟩, hb3⟩)
    have HB3 := Lib.hid (HB2.out.trans (hb3.mono HB2.out.size))
    have HK3 := Lib.hid (HK.out.below hb3 HK.out.lt)
    obtain rfl := (HF1.out _ hc1).symm
    clear k0 k1 hb3 hc1
    have k0 := (HK3.out.cell 0).trans rfl
    have k1 := (HK3.out.cell 1).trans rfl
    go_wp2_with (go_at_call 19; refine (HC2.out _ HB3.out).mono ?_; rintro e w4 ⟨⟨c2, rfl, hc2⟩, hb4⟩; obtain rfl := (HF2.out _ hc2).symm; clear hc2)
    go_ret2
    exact ⟨ret2 (vint HE.out) rfl, HB3.out.trans (hb4.mono HB3.out.size)⟩
set_option maxHeartbeats 4000000 in
theorem refUnder_any (i r cc : Int) (v : Value) (n : Nat) (l : List Int) (w : World) (B : Nat) (hB : B ≤ w.heap.size) (h : IsFlat 3 w B v n l) (hi : I64 i) (hR : UnderR l n i r cc) :
    Calls Try.prog 10 #[v, .int .i64 i] w fun e w' => e = .returned (.tuple #[.int .i64 r, .int .i64 cc]) ∧ Below w.heap.size w w' := by
  have HP := Lib.hid (pointsFault_any v n l w B hB h)
  have HAb := Lib.hid refAbove_any
  obtain ⟨A, c, rfl, hc, hm, hn, hl, hr, hw⟩ := h
  unfold I64 at hi
  rcases hR with ⟨h0, rfl, rfl⟩ | ⟨h0, h1, rfl, rfl⟩ | ⟨h0, h1, h2, rfl, rfl⟩ | ⟨h0, j, rfl, hj, rfl, rfl⟩
  · generalize ptCode n l = cc at *
    have t0 : (cc != 0) = true := bne_iff_ne.2 h0
    clear hr hw hl
    go_enter Try.func10, Try.ntmps10
    go_wp2_with (go_at_call 16; refine (HP.out).mono ?_; rintro e w1 ⟨rfl, hb1⟩)
    go_ret2
    exact ⟨rfl, hb1⟩
  · rw [h0] at HP
    clear h0 hr hw hl
    go_enter Try.func10, Try.ntmps10
    go_wp2_with (go_at_call 16; refine (HP.out).mono ?_; rintro e w1 ⟨rfl, hb1⟩)
    go_ret2
    exact ⟨rfl, hb1⟩
  · rw [h0] at HP
    have t1 : decide (i < 0) = false := decide_eq_false h1
    clear h0 hr hw hl
    go_enter Try.func10, Try.ntmps10
    go_wp2_with (go_at_call 16; refine (HP.out).mono ?_; rintro e w1 ⟨rfl, hb1⟩)
    go_ret2
    exact ⟨rfl, hb1⟩
  · have h150 := (pt_coords h0).1
    rw [h0] at HP
    obtain ⟨bk, off, rfl, hbk, hcs⟩ := flat_cells hr hl (by omega) (by omega)
    have HCs := Lib.hid hcs
    have t1 : decide ((j : Int) < 0) = false := decide_eq_false (by omega)
    have t2 : decide ((n : Int) ≤ (j : Int)) = false := decide_eq_false (by omega)
    have t3 : decide (n ≤ j) = false := decide_eq_false (by omega)
    have j1 : (j : Int) < (n : Int) := by omega
    clear h0 hr hw hl hcs
    go_enter Try.func10, Try.ntmps10
    go_wp2_with (go_at_call 16; refine (HP.out).mono ?_; rintro e w1 ⟨rfl, hb1⟩)
    have HB1 := Lib.hid hb1
    clear hb1
    go_loopw [7, 9, 25] (fun cv _ iv wr => ∃ (i N : Nat), i ≤ n ∧ iv = .int .i64 i ∧ cv = .int .i64 N ∧ N ≤ i ∧ Hid (N = (List.range i).countP fun i => aboveAt l j i) ∧ Hid (Below w.heap.size w wr)) (fun _ _ iv _ => n - (intOf iv).toNat)
    case atStart => exact ⟨0, 0, by omega, rfl, rfl, by omega, Lib.hid rfl, HB1⟩
    case round =>
      obtain ⟨i, N, hin, rfl, rfl, hNi, HN, HB⟩ := hrel
      by_cases hlt : i < n
      · have i1 : (i : Int) < (n : Int) := by omega
        have cell : ∀ k, k < n * 3 → wr.cell? ⟨bk, off + k, none⟩ = some (.int .i64 (l.getD k 0)) := fun k hk => (HB.out.cell (p := ⟨bk, off + k, none⟩) (by show bk < _; omega)).trans (HCs.out k hk)
        have y0' := cell (i * 3) (by omega)
        have y1' := cell (i * 3 + 1) (by omega)
        have y2' := cell (i * 3 + 2) (by omega)
        have z0' := cell (j * 3) (by omega)
        have z1' := cell (j * 3 + 1) (by omega)
        have z2' := cell (j * 3 + 2) (by omega)
        rw [← Nat.add_assoc] at y1' y2' z1' z2'
        have HS := Lib.hid (underN_step l j i)
        obtain ⟨q, hq⟩ : ∃ q, aboveAt l j i = q := ⟨_, rfl⟩
        have hq2 : aboveB (l.getD (j * 3) 0) (l.getD (j * 3 + 1) 0) (l.getD (i * 3) 0) (l.getD (i * 3 + 1) 0) = q := by rw [← hq]; unfold aboveAt; rfl
        rw [hq] at HS
        generalize l.getD (i * 3) 0 = p0 at *
        generalize l.getD (i * 3 + 1) 0 = p1 at *
        generalize l.getD (i * 3 + 2) 0 = p2 at *
        generalize l.getD (j * 3) 0 = q0 at *
        generalize l.getD (j * 3 + 1) 0 = q1 at *
        generalize l.getD (j * 3 + 2) 0 = q2 at *
        have HA := Lib.hid fun W => (by have := HAb.out q0 q1 q2 p0 p1 p2 W; rw [hq2] at this; exact this)
        clear cell hq hq2
        cases q with
        | true =>
          go_upto_region 10 with fail
          have HK := Lib.hid (Blk.new wr 42 #[.int .i64 p0, .int .i64 p1, .int .i64 p2])
          have HB2 := Lib.hid (HB.out.alloc HB.out.size (.cells #[.int .i64 p0, .int .i64 p1, .int .i64 p2] 42))
          have a0 := (HK.out.cell 0).trans rfl
          have a1 := (HK.out.cell 1).trans rfl
          have a2 := (HK.out.cell 2).trans rfl
          have hz2 : (wr.alloc (.cells #[.int .i64 p0, .int .i64 p1, .int .i64 p2] 42)).heap.size = wr.heap.size + 1 := by simp
          have b0 := ((Below.refl wr.heap.size wr).alloc (Nat.le_refl _) (.cells #[.int .i64 p0, .int .i64 p1, .int .i64 p2] 42)).cell (cell_lt z0') |>.trans z0'
          have b1 := ((Below.refl wr.heap.size wr).alloc (Nat.le_refl _) (.cells #[.int .i64 p0, .int .i64 p1, .int .i64 p2] 42)).cell (cell_lt z1') |>.trans z1'
          have b2 := ((Below.refl wr.heap.size wr).alloc (Nat.le_refl _) (.cells #[.int .i64 p0, .int .i64 p1, .int .i64 p2] 42)).cell (cell_lt z2') |>.trans z2'
          clear y0' y1' y2' z0' z1' z2'
          generalize wr.alloc (.cells #[.int .i64 p0, .int .i64 p1, .int .i64 p2] 42) = W2 at *
          go_region_held3 (fun w' => w'.cell? ⟨wr.heap.size, 0, none⟩ = some (.int .i64 p0) ∧ w'.cell? ⟨wr.heap.size, 1, none⟩ = some (.int .i64 p1) ∧ w'.cell? ⟨wr.heap.size, 2, none⟩ = some (.int .i64 p2) ∧ w'.cell? ⟨bk, off + j * 3, none⟩ = some (.int .i64 q0) ∧ w'.cell? ⟨bk, off + j * 3 + 1, none⟩ = some (.int .i64 q1) ∧ w'.cell? ⟨bk, off + j * 3 + 2, none⟩ = some (.int .i64 q2))
            (first
              | exact ⟨a0, a1, a2, b0, b1, b2⟩
              | exact ⟨kept_call hb4 (cell_lt a0) a0, kept_call hb4 (cell_lt a1) a1, kept_call hb4 (cell_lt a2) a2, kept_call hb4 (cell_lt b0) b0, kept_call hb4 (cell_lt b1) b1, kept_call hb4 (cell_lt b2) b2⟩)
            (first
              | (go_at_call 20; refine (HA.out _).mono ?_; rintro e w4 ⟨rfl, hb4⟩))
          go_wp2_with fail
          go_roundw
          case rel => exact ⟨i + 1, N + 1, by omega, by go_num, by go_num, by omega, Lib.hid (by rw [HS.out, ← HN.out]; rfl), Lib.hid (HB2.out.drew.trans (hb4.mono HB2.out.size))⟩
          case measure => simp [intOf]; omega
        | false =>
          go_upto_region 10 with fail
          have HK := Lib.hid (Blk.new wr 42 #[.int .i64 p0, .int .i64 p1, .int .i64 p2])
          have HB2 := Lib.hid (HB.out.alloc HB.out.size (.cells #[.int .i64 p0, .int .i64 p1, .int .i64 p2] 42))
          have a0 := (HK.out.cell 0).trans rfl
          have a1 := (HK.out.cell 1).trans rfl
          have a2 := (HK.out.cell 2).trans rfl
          have hz2 : (wr.alloc (.cells #[.int .i64 p0, .int .i64 p1, .int .i64 p2] 42)).heap.size = wr.heap.size + 1 := by simp
          have b0 := ((Below.refl wr.heap.size wr).alloc (Nat.le_refl _) (.cells #[.int .i64 p0, .int .i64 p1, .int .i64 p2] 42)).cell (cell_lt z0') |>.trans z0'
          have b1 := ((Below.refl wr.heap.size wr).alloc (Nat.le_refl _) (.cells #[.int .i64 p0, .int .i64 p1, .int .i64 p2] 42)).cell (cell_lt z1') |>.trans z1'
          have b2 := ((Below.refl wr.heap.size wr).alloc (Nat.le_refl _) (.cells #[.int .i64 p0, .int .i64 p1, .int .i64 p2] 42)).cell (cell_lt z2') |>.trans z2'
          clear y0' y1' y2' z0' z1' z2'
          generalize wr.alloc (.cells #[.int .i64 p0, .int .i64 p1, .int .i64 p2] 42) = W2 at *
          go_region_held3 (fun w' => w'.cell? ⟨wr.heap.size, 0, none⟩ = some (.int .i64 p0) ∧ w'.cell? ⟨wr.heap.size, 1, none⟩ = some (.int .i64 p1) ∧ w'.cell? ⟨wr.heap.size, 2, none⟩ = some (.int .i64 p2) ∧ w'.cell? ⟨bk, off + j * 3, none⟩ = some (.int .i64 q0) ∧ w'.cell? ⟨bk, off + j * 3 + 1, none⟩ = some (.int .i64 q1) ∧ w'.cell? ⟨bk, off + j * 3 + 2, none⟩ = some (.int .i64 q2))
            (first
              | exact ⟨a0, a1, a2, b0, b1, b2⟩
              | exact ⟨kept_call hb4 (cell_lt a0) a0, kept_call hb4 (cell_lt a1) a1, kept_call hb4 (cell_lt a2) a2, kept_call hb4 (cell_lt b0) b0, kept_call hb4 (cell_lt b1) b1, kept_call hb4 (cell_lt b2) b2⟩)
            (first
              | (go_at_call 20; refine (HA.out _).mono ?_; rintro e w4 ⟨rfl, hb4⟩))
          go_wp2_with fail
          go_roundw
          case rel => exact ⟨i + 1, N, by omega, by go_num, rfl, by omega, Lib.hid (by rw [HS.out, ← HN.out]; rfl), Lib.hid (HB2.out.drew.trans (hb4.mono HB2.out.size))⟩
          case measure => simp [intOf]; omega
      · obtain rfl : n = i := by omega
        have i6 : ¬ (n : Int) < (n : Int) := by omega
        have HE : Hid ((N : Int) = (underN l n j : Int)) := Lib.hid (by rw [HN.out]; unfold underN; rfl)
        go_wp2_with fail
        go_ret2
        exact ⟨ret2 (vint HE.out) rfl, HB.out⟩
end Go.Proofs.Ythbopbbpogddlaa

/-
  The walk of the law SkyUnders: sky.Under and the reference answer alike. Conditions: the arguments can be read as data.
-/
namespace Go.Proofs.Ythbopbbpogddlaa
open Go Go.RowKit Go.Dam
set_option linter.unusedVariables false
set_option maxHeartbeats 400000 in
theorem skyUnders_walk (v u1 : Value) (w : World) (h : ∃ n l, IsFlat 3 w w.heap.size v n l) (h1 : ∃ x : Int, u1 = .int .i64 x ∧ I64 x) :
    Calls Try.prog 4 #[v, u1] w fun e w' => e = .returned (.bool true) ∧ Below w.heap.size w w' := by
  obtain ⟨n, l, h⟩ := h
  obtain ⟨i, rfl, hx⟩ := h1
  obtain ⟨r, cc, hR⟩ := UnderR.ex l n i
  have H1 := Lib.hid (skyUnder_any i r cc v n l w _ (Nat.le_refl _) h hx hR)
  have H2 := Lib.hid fun W (hb : Below w.heap.size w W) => refUnder_any i r cc v n l W _ hb.size (h.below hb) hx hR
  obtain ⟨A, c, rfl, hc, hm, hn, hl, hr, hw⟩ := h
  clear hr hl hw hR hx
  go_enter Try.func4, Try.ntmps4
  go_wp2_with (first
    | (go_at_call 9; refine (H1.out).mono ?_; rintro e w1 ⟨rfl, hb1⟩)
    | (go_at_call 10; refine (H2.out _ hb1).mono ?_; rintro e w2 ⟨rfl, hb2⟩))
  all_goals (go_ret; exact ⟨ret_bool (by simp), hb1.trans (hb2.mono hb1.size)⟩)
end Go.Proofs.Ythbopbbpogddlaa
