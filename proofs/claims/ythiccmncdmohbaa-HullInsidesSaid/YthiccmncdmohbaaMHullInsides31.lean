/-
  Contracts of the reference's cross and wrap: the corners of points, found from corner to corner. Conditions: the points can be read; their coordinates are within 2^20 either way; H are the corners.
-/
import Derived.Test.YthiccmncdmohbaaMHullInsides09
import Derived.Test.YthiccmncdmohbaaMHullInsides30
set_option linter.unusedVariables false
set_option linter.unusedSimpArgs false
namespace Go.Proofs.Ythiccmncdmohbaa
open Go Go.RowKit Go.Dam Go.Dam.Hull
set_option linter.unusedVariables false
set_option maxHeartbeats 1000000 in
theorem refCross_any (x0 y0 z0 x1 y1 z1 x2 y2 z2 : Int) (w : World) (hx0 : okC x0) (hy0 : okC y0) (hx1 : okC x1) (hy1 : okC y1) (hx2 : okC x2) (hy2 : okC y2) :
    Calls Try.prog 56 #[.agg #[.int .i64 x0, .int .i64 y0, .int .i64 z0], .agg #[.int .i64 x1, .int .i64 y1, .int .i64 z1], .agg #[.int .i64 x2, .int .i64 y2, .int .i64 z2]] w fun e w' => e = .returned (.int .i64 (crs (x0, y0) (x1, y1) (x2, y2))) ∧ Below w.heap.size w w' := by
  unfold okC at *
  obtain ⟨a, ha⟩ : ∃ d, x1 - x0 = d := ⟨_, rfl⟩
  obtain ⟨b, hb⟩ : ∃ d, y2 - y0 = d := ⟨_, rfl⟩
  obtain ⟨c, hc⟩ : ∃ d, y1 - y0 = d := ⟨_, rfl⟩
  obtain ⟨d, hd⟩ : ∃ d, x2 - x0 = d := ⟨_, rfl⟩
  have HR : Hid (crs (x0, y0) (x1, y1) (x2, y2) = a * b - d * c) := Lib.hid (by unfold crs; show (x1 - x0) * (y2 - y0) - (x2 - x0) * (y1 - y0) = _; rw [ha, hb, hc, hd])
  have mul_bd : ∀ p q : Int, -2097152 ≤ p → p ≤ 2097152 → -2097152 ≤ q → q ≤ 2097152 → -4398046511104 ≤ p * q ∧ p * q ≤ 4398046511104 := fun p q h1 h2 h3 h4 => by
    have e1 : 0 ≤ (p + 2097152) * (q + 2097152) := Int.mul_nonneg (by omega) (by omega)
    have e2 : 0 ≤ (2097152 - p) * (2097152 - q) := Int.mul_nonneg (by omega) (by omega)
    have e3 : 0 ≤ (p + 2097152) * (2097152 - q) := Int.mul_nonneg (by omega) (by omega)
    have e4 : 0 ≤ (2097152 - p) * (q + 2097152) := Int.mul_nonneg (by omega) (by omega)
    simp only [Int.add_mul, Int.mul_add, Int.sub_mul, Int.mul_sub] at e1 e2 e3 e4
    omega
  have m1 := mul_bd a b (by omega) (by omega) (by omega) (by omega)
  have m2 := mul_bd d c (by omega) (by omega) (by omega) (by omega)
  have w1 : wrap64 (x1 - x0) = a := by unfold wrap64; omega
  have w2 : wrap64 (y2 - y0) = b := by unfold wrap64; omega
  have w3 : wrap64 (y1 - y0) = c := by unfold wrap64; omega
  have w4 : wrap64 (x2 - x0) = d := by unfold wrap64; omega
  have w5 : wrap64 (a * b) = a * b := by generalize a * b = p at *; unfold wrap64; omega
  have w6 : wrap64 (d * c) = d * c := by generalize d * c = p at *; unfold wrap64; omega
  have w7 : wrap64 (a * b - d * c) = a * b - d * c := by generalize a * b = p at *; generalize d * c = q at *; unfold wrap64; omega
  rw [HR.out]
  clear ha hb hc hd hx0 hy0 hx1 hy1 hx2 hy2 mul_bd m1 m2
  go_enter Try.func56, Try.ntmps56
  go_wp2_with fail
  go_ret
  refine ⟨?_, ?_⟩
  · show Ending.returned (.int .i64 (wrap64 (a * b - d * c))) = _
    rw [w7]
  exact (((Below.refl _ _).alloc (Nat.le_refl _) _).alloc (by simp) _).alloc (by simp; omega) _
set_option maxRecDepth 100000 in
set_option maxHeartbeats 8000000 in
theorem refWrap_any (n c bk off : Nat) (l : List Int) (H : List Nat) (w : World) (hn0 : 0 < n) (hn : n ≤ 1000) (hbk : bk < w.heap.size) (hH : HullIs (ptF l) n H) (hHl : H.length ≤ 1000)
    (hco : ∀ i, i < n → okC (l.getD (i * 3) 0) ∧ okC (l.getD (i * 3 + 1) 0))
    (hcs : ∀ j, j < n * 3 → w.cell? ⟨bk, off + j, none⟩ = some (.int .i64 (l.getD j 0))) :
    Calls Try.prog 28 #[.slice (some ⟨bk, off, none⟩) n c] w fun e w' => ∃ v', e = .returned v' ∧ w'.ownsRow w.heap.size 3 1 v' H.length ((natH H).map (Value.int .i64)) ∧ Below w.heap.size w w' := by
  have HCs := Lib.hid hcs
  have HCo := Lib.hid hco
  have HH := Lib.hid hH
  have HNr : Hid (∀ i, i < n → nr (ptF l i)) := Lib.hid fun i hi => (hco i hi).2
  have HLe : Hid (∀ k, k ≤ n → fst (ptF l) k < n) := Lib.hid (fst_lt (ptF l) hn0)
  clear hcs hco hH
  go_enter Try.func28, Try.ntmps28
  go_wp2
  go_loopw [3, 4, 5, 6, 15] (fun fv _ _ _ iv wr => ∃ i f : Nat, i ≤ n ∧ iv = .int .i64 i ∧ fv = .int .i64 f ∧ f < n ∧ Hid (f = fst (ptF l) i) ∧ Hid (Below w.heap.size w wr)) (fun _ _ _ _ iv _ => n - (intOf iv).toNat)
  case atStart => exact ⟨0, 0, by omega, rfl, rfl, hn0, Lib.hid (fst_0 _).symm, Lib.hid (Below.refl _ _)⟩
  case round =>
    obtain ⟨i, f, hi, rfl, rfl, hf, HF, HB⟩ := hrel
    have hz := HB.out.size
    by_cases hlt : i < n
    · have pt : ∀ j, j < n * 3 → wr.cell? ⟨bk, off + j, none⟩ = some (.int .i64 (l.getD j 0)) := fun j hj => (HB.out.cell (p := ⟨bk, off + j, none⟩) hbk).trans (HCs.out j hj)
      have a0 := pt (i * 3) (by omega)
      have a1 : wr.cell? ⟨bk, off + i * 3 + 1, none⟩ = some (.int .i64 (l.getD (i * 3 + 1) 0)) := pt (i * 3 + 1) (by omega)
      have a2 : wr.cell? ⟨bk, off + i * 3 + 2, none⟩ = some (.int .i64 (l.getD (i * 3 + 2) 0)) := pt (i * 3 + 2) (by omega)
      have b0 : ∀ o, (wr.alloc o).cell? ⟨bk, off + f * 3, none⟩ = some (.int .i64 (l.getD (f * 3) 0)) := fun o => (World.cell?_alloc_lt wr o ⟨bk, off + f * 3, none⟩ (by show bk < _; omega)).trans (pt (f * 3) (by omega))
      have b1 : ∀ o, (wr.alloc o).cell? ⟨bk, off + f * 3 + 1, none⟩ = some (.int .i64 (l.getD (f * 3 + 1) 0)) := fun o => (World.cell?_alloc_lt wr o ⟨bk, off + f * 3 + 1, none⟩ (by show bk < _; omega)).trans (pt (f * 3 + 1) (by omega))
      have b2 : ∀ o, (wr.alloc o).cell? ⟨bk, off + f * 3 + 2, none⟩ = some (.int .i64 (l.getD (f * 3 + 2) 0)) := fun o => (World.cell?_alloc_lt wr o ⟨bk, off + f * 3 + 2, none⟩ (by show bk < _; omega)).trans (pt (f * 3 + 2) (by omega))
      have HS : Hid (((l.getD (i * 3) 0 < l.getD (f * 3) 0 ∨ (l.getD (i * 3) 0 = l.getD (f * 3) 0 ∧ l.getD (i * 3 + 1) 0 < l.getD (f * 3 + 1) 0)) → fst (ptF l) (i + 1) = i) ∧ (¬ (l.getD (i * 3) 0 < l.getD (f * 3) 0 ∨ (l.getD (i * 3) 0 = l.getD (f * 3) 0 ∧ l.getD (i * 3 + 1) 0 < l.getD (f * 3 + 1) 0)) → fst (ptF l) (i + 1) = f)) := Lib.hid (by
        have := fst_s (ptF l) i
        rw [← HF.out] at this
        unfold ptF at this ⊢
        rw [lx_pt] at this
        exact this)
      have ni : (i : Int) < (n : Int) := by omega
      have nf : (f : Int) < (n : Int) := by omega
      generalize l.getD (i * 3) 0 = xi at *
      generalize l.getD (i * 3 + 1) 0 = yi at *
      generalize l.getD (i * 3 + 2) 0 = zi at *
      generalize l.getD (f * 3) 0 = xf at *
      generalize l.getD (f * 3 + 1) 0 = yf at *
      generalize l.getD (f * 3 + 2) 0 = zf at *
      clear pt
      by_cases h1 : xi < xf
      · have t1 : decide (xi < xf) = true := decide_eq_true h1
        go_wp2
        go_roundw
        case rel => exact ⟨i + 1, i, by omega, by go_num, rfl, by omega, Lib.hid (HS.out.1 (.inl h1)).symm, Lib.hid ((HB.out.alloc hz _).alloc (by simp; omega) _)⟩
        case measure => simp [intOf]; omega
      · have t1 : decide (xi < xf) = false := decide_eq_false h1
        by_cases h2 : xi = xf
        · have t2 : (xi == xf) = true := beq_iff_eq.2 h2
          have HX := Lib.hid h2
          clear h2
          by_cases h3 : yi < yf
          · have t3 : decide (yi < yf) = true := decide_eq_true h3
            go_wp2
            go_roundw
            case rel => exact ⟨i + 1, i, by omega, by go_num, rfl, by omega, Lib.hid (HS.out.1 (.inr ⟨HX.out, h3⟩)).symm, Lib.hid ((HB.out.alloc hz _).alloc (by simp; omega) _)⟩
            case measure => simp [intOf]; omega
          · have t3 : decide (yi < yf) = false := decide_eq_false h3
            go_wp2
            go_roundw
            case rel => exact ⟨i + 1, f, by omega, by go_num, rfl, by omega, Lib.hid (HS.out.2 (by have := HX.out; omega)).symm, Lib.hid ((HB.out.alloc hz _).alloc (by simp; omega) _)⟩
            case measure => simp [intOf]; omega
        · have t2 : (xi == xf) = false := beq_eq_false_iff_ne.2 h2
          go_wp2
          go_roundw
          case rel => exact ⟨i + 1, f, by omega, by go_num, rfl, by omega, Lib.hid (HS.out.2 (by omega)).symm, Lib.hid ((HB.out.alloc hz _).alloc (by simp; omega) _)⟩
          case measure => simp [intOf]; omega
    · obtain rfl : n = i := by omega
      have HF0 : Hid (f = H.getD 0 0) := Lib.hid (by rw [HF.out]; exact HH.out.first HNr.out)
      clear HF
      have hne := HH.out.ne
      have HT1 : Hid (H.take 1 = [f]) := Lib.hid (by
        rw [HF0.out, List.take_one, gE H 0 hne, List.head?_eq_getElem?, List.getElem?_eq_getElem hne]; rfl)
      have HOA : Hid ((wr.alloc (.cells #[.int .i64 (f : Int)] 3)).ownsRow w.heap.size 3 1 (.slice (some ⟨wr.heap.size, 0, none⟩) 1 1) 1 ((natH (H.take 1)).map (Value.int .i64))) := Lib.hid (by
        rw [HT1.out]
        exact own_of_blk (Blk.new wr 3 #[.int .i64 (f : Int)]) hz rfl (by omega))
      have HBA := Lib.hid (HB.out.alloc hz (.cells #[.int .i64 (f : Int)] 3))
      go_wp2
      generalize wr.alloc (.cells #[.int .i64 (f : Int)] 3) = wA at *
      go_loopw [7, 8, 9, 10, 11, 12] (fun ov _ _ _ _ _ wo => ∃ j : Nat, j < H.length ∧ Hid (wo.ownsRow w.heap.size 3 1 ov (j + 1) ((natH (H.take (j + 1))).map (Value.int .i64))) ∧ Hid (Below w.heap.size w wo)) (fun ov _ _ _ _ _ _ => H.length - (match ov with | .slice _ m _ => m | _ => 0))
      case atStart => exact ⟨0, hne, HOA, HBA⟩
      case round =>
        obtain ⟨j, hj, HO, HBo⟩ := hrel
        clear HOA HBA HB hz
        obtain ⟨wo, rfl⟩ : ∃ wo : World, wo = wr := ⟨_, rfl⟩
        have hzo := HBo.out.size
        obtain ⟨g5, cap5, hv5, hb5, hlt5⟩ := HO.out.form (by omega)
        subst hv5
        have hjl : (H.take (j + 1)).length = j + 1 := by rw [List.length_take]; omega
        have hjn : H.getD j 0 < n := HH.out.lt hj
        have o0 : wo.cell? ⟨g5, j, none⟩ = some (.int .i64 ((H.getD j 0 : Nat) : Int)) := by
          have h1 := own_atH HO.out hjl (show j < j + 1 by omega)
          rw [List.getD_eq_getElem?_getD, List.getElem?_take_of_lt (by omega), ← List.getD_eq_getElem?_getD] at h1
          exact h1
        have hcap := own_cap HO.out
        obtain ⟨a, ha⟩ : ∃ a, a = H.getD j 0 := ⟨_, rfl⟩
        have HA := Lib.hid ha
        rw [← ha] at o0 hjn
        have pt : ∀ q, q < n * 3 → wo.cell? ⟨bk, off + q, none⟩ = some (.int .i64 (l.getD q 0)) := fun q hq => (HBo.out.cell (p := ⟨bk, off + q, none⟩) hbk).trans (HCs.out q hq)
        have HPt := Lib.hid pt
        have a0 := pt (a * 3) (by omega)
        have a1 : wo.cell? ⟨bk, off + a * 3 + 1, none⟩ = some (.int .i64 (l.getD (a * 3 + 1) 0)) := pt (a * 3 + 1) (by omega)
        have a2 : wo.cell? ⟨bk, off + a * 3 + 2, none⟩ = some (.int .i64 (l.getD (a * 3 + 2) 0)) := pt (a * 3 + 2) (by omega)
        have HNow : Hid (ptF l a = (l.getD (a * 3) 0, l.getD (a * 3 + 1) 0) ∧ okC (l.getD (a * 3) 0) ∧ okC (l.getD (a * 3 + 1) 0)) := Lib.hid ⟨rfl, HCo.out a hjn⟩
        obtain ⟨xn, hxn⟩ : ∃ x, x = l.getD (a * 3) 0 := ⟨_, rfl⟩
        obtain ⟨yn, hyn⟩ : ∃ x, x = l.getD (a * 3 + 1) 0 := ⟨_, rfl⟩
        obtain ⟨zn, hzn⟩ : ∃ x, x = l.getD (a * 3 + 2) 0 := ⟨_, rfl⟩
        rw [← hxn] at a0 HNow
        rw [← hyn] at a1 HNow
        rw [← hzn] at a2
        have na : (a : Int) < (n : Int) := by omega
        have e1 : (j : Int) + 1 - 1 = (j : Int) := by omega
        have e2 : IntKind.i64.wrap (j : Int) = (j : Int) := by rw [IntKind.wrap_i64]; omega
        clear pt ha hxn hyn hzn hjl
        go_wp2
        obtain ⟨gN, hgN⟩ : ∃ g, g = wo.heap.size := ⟨_, rfl⟩
        have HNB : Hid (Blk (wo.alloc (.cells #[.int .i64 xn, .int .i64 yn, .int .i64 zn] 63)) gN 63 #[.int .i64 xn, .int .i64 yn, .int .i64 zn]) := Lib.hid (by rw [hgN]; exact Blk.new _ _ _)
        have HO1 : Hid ((wo.alloc (.cells #[.int .i64 xn, .int .i64 yn, .int .i64 zn] 63)).ownsRow w.heap.size 3 1 (.slice (some ⟨g5, 0, none⟩) (j + 1) cap5) (j + 1) ((natH (H.take (j + 1))).map (Value.int .i64))) := Lib.hid (HO.out.alloc _)
        have HB1 : Hid (Below w.heap.size w (wo.alloc (.cells #[.int .i64 xn, .int .i64 yn, .int .i64 zn] 63))) := Lib.hid (HBo.out.alloc hzo _)
        have hgw : w.heap.size ≤ gN := by omega
        rw [← hgN]
        rw [← hgN] at hlt5
        clear hgN o0 a0 a1 a2 HO HBo hzo e1 e2
        generalize wo.alloc (.cells #[.int .i64 xn, .int .i64 yn, .int .i64 zn] 63) = wN at *
        go_loopw [9, 10, 11, 12, 58] (fun nv _ _ _ iv wr => ∃ (i : Nat) (nx : Int), i ≤ n ∧ iv = .int .i64 i ∧ nv = .int .i64 nx ∧ -1 ≤ nx ∧ nx < n ∧ Hid (nx = nxt (ptF l) (xn, yn) i) ∧ Hid (Blk wr gN 63 #[.int .i64 xn, .int .i64 yn, .int .i64 zn]) ∧ Hid (wr.ownsRow w.heap.size 3 1 (.slice (some ⟨g5, 0, none⟩) (j + 1) cap5) (j + 1) ((natH (H.take (j + 1))).map (Value.int .i64))) ∧ Hid (Below w.heap.size w wr)) (fun _ _ _ _ iv _ => n - (intOf iv).toNat)
        case atStart => exact ⟨0, -1, by omega, rfl, rfl, by omega, by omega, Lib.hid (nxt_0 _ _).symm, HNB, HO1, HB1⟩
        case round =>
          clear HNB HO1 HB1
          obtain ⟨i, nx, hi2, rfl, rfl, hx1, hx2, HX, HNB, HO1, HB1⟩ := hrel
          obtain ⟨wi, rfl⟩ : ∃ wi : World, wi = wr := ⟨_, rfl⟩
          have hzi := HB1.out.size
          have hgi := HNB.out.lt
          by_cases hlt2 : i < n
          · have pt : ∀ q, q < n * 3 → wi.cell? ⟨bk, off + q, none⟩ = some (.int .i64 (l.getD q 0)) := fun q hq => (HB1.out.cell (p := ⟨bk, off + q, none⟩) hbk).trans (HCs.out q hq)
            have a0 := pt (i * 3) (by omega)
            have a1 : wi.cell? ⟨bk, off + i * 3 + 1, none⟩ = some (.int .i64 (l.getD (i * 3 + 1) 0)) := pt (i * 3 + 1) (by omega)
            have a2 : wi.cell? ⟨bk, off + i * 3 + 2, none⟩ = some (.int .i64 (l.getD (i * 3 + 2) 0)) := pt (i * 3 + 2) (by omega)
            have HPi : Hid (ptF l i = (l.getD (i * 3) 0, l.getD (i * 3 + 1) 0) ∧ okC (l.getD (i * 3) 0) ∧ okC (l.getD (i * 3 + 1) 0)) := Lib.hid ⟨rfl, HCo.out i hlt2⟩
            obtain ⟨xi, hxi⟩ : ∃ x, x = l.getD (i * 3) 0 := ⟨_, rfl⟩
            obtain ⟨yi, hyi⟩ : ∃ x, x = l.getD (i * 3 + 1) 0 := ⟨_, rfl⟩
            obtain ⟨zi, hzi'⟩ : ∃ x, x = l.getD (i * 3 + 2) 0 := ⟨_, rfl⟩
            rw [← hxi] at a0 HPi
            rw [← hyi] at a1 HPi
            rw [← hzi'] at a2
            have ni : (i : Int) < (n : Int) := by omega
            have HN1 := Lib.hid (nxt_s (ptF l) (xn, yn) i)
            clear pt hxi hyi hzi'
            have kn : ∀ o, Blk (wi.alloc o) gN 63 #[.int .i64 xn, .int .i64 yn, .int .i64 zn] := fun o => HNB.out.alloc o
            have m0 : ∀ o, (wi.alloc o).cell? ⟨gN, 0, none⟩ = some (.int .i64 xn) := fun o => ((kn o).cell 0).trans rfl
            have m1 : ∀ o, (wi.alloc o).cell? ⟨gN, 1, none⟩ = some (.int .i64 yn) := fun o => ((kn o).cell 1).trans rfl
            have HPB : Hid (Blk (wi.alloc (.cells #[.int .i64 xi, .int .i64 yi, .int .i64 zi] 63)) wi.heap.size 63 #[.int .i64 xi, .int .i64 yi, .int .i64 zi]) := Lib.hid (Blk.new _ _ _)
            have HNB2 : Hid (Blk (wi.alloc (.cells #[.int .i64 xi, .int .i64 yi, .int .i64 zi] 63)) gN 63 #[.int .i64 xn, .int .i64 yn, .int .i64 zn]) := Lib.hid (kn _)
            have HO2 : Hid ((wi.alloc (.cells #[.int .i64 xi, .int .i64 yi, .int .i64 zi] 63)).ownsRow w.heap.size 3 1 (.slice (some ⟨g5, 0, none⟩) (j + 1) cap5) (j + 1) ((natH (H.take (j + 1))).map (Value.int .i64))) := Lib.hid (HO1.out.alloc _)
            have HB2 : Hid (Below w.heap.size w (wi.alloc (.cells #[.int .i64 xi, .int .i64 yi, .int .i64 zi] 63))) := Lib.hid (HB1.out.alloc hzi _)
            by_cases hsame : xi = xn ∧ yi = yn
            · have t1 : (xi == xn) = true := beq_iff_eq.2 hsame.1
              have t2 : (yi == yn) = true := beq_iff_eq.2 hsame.2
              have HSm := Lib.hid hsame
              clear hsame kn
              go_wp2
              go_roundw
              case rel => exact ⟨i + 1, nx, by omega, by go_num, rfl, hx1, hx2, Lib.hid (by rw [HN1.out, nstep_same (by rw [HPi.out.1, HSm.out.1, HSm.out.2]), HX.out]), HNB2, HO2, HB2⟩
              case measure => simp [intOf]; omega
            · have HDf : Hid (ptF l i ≠ (xn, yn)) := Lib.hid (by rw [HPi.out.1]; intro e; exact hsame ⟨by injection e, by injection e⟩)
              have htt : (xi == xn) = false ∨ ((xi == xn) = true ∧ (yi == yn) = false) := by
                by_cases hxe : xi = xn
                · exact .inr ⟨beq_iff_eq.2 hxe, beq_eq_false_iff_ne.2 fun e => hsame ⟨hxe, e⟩⟩
                · exact .inl (beq_eq_false_iff_ne.2 hxe)
              clear hsame kn
              rcases htt with t1 | ⟨t1, t2⟩
              all_goals
                by_cases hneg : nx < 0
                · have t3 : decide (nx < 0) = true := decide_eq_true hneg
                  go_wp2
                  go_roundw
                  case rel => exact ⟨i + 1, (i : Int), by omega, by go_num, rfl, by omega, by omega, Lib.hid (by rw [HN1.out, nstep_none HDf.out (by rw [← HX.out]; exact hneg)]), HNB2, HO2, HB2⟩
                  case measure => simp [intOf]; omega
                · have t3 : decide (nx < 0) = false := decide_eq_false hneg
                  go_upto_region 18 with fail
                  have hzp : wi.heap.size < (wi.alloc (.cells #[.int .i64 xi, .int .i64 yi, .int .i64 zi] 63)).heap.size := by simp
                  obtain ⟨gP, hgP⟩ : ∃ g, g = wi.heap.size := ⟨_, rfl⟩
                  have hgPg : gN < gP := by omega
                  rw [← hgP]
                  rw [← hgP] at HPB hzp
                  clear hgP m0 m1 a0 a1 a2 HNB HO1 HB1 hzi hgi
                  generalize wi.alloc (.cells #[.int .i64 xi, .int .i64 yi, .int .i64 zi] 63) = wp at *
                  obtain ⟨k, rfl⟩ : ∃ k : Nat, nx = k := ⟨nx.toNat, by omega⟩
                  have hkn : k < n := by omega
                  have pt : ∀ q, q < n * 3 → wp.cell? ⟨bk, off + q, none⟩ = some (.int .i64 (l.getD q 0)) := fun q hq => (HB2.out.cell (p := ⟨bk, off + q, none⟩) hbk).trans (HCs.out q hq)
                  have k0 := pt (k * 3) (by omega)
                  have k1 : wp.cell? ⟨bk, off + k * 3 + 1, none⟩ = some (.int .i64 (l.getD (k * 3 + 1) 0)) := pt (k * 3 + 1) (by omega)
                  have k2 : wp.cell? ⟨bk, off + k * 3 + 2, none⟩ = some (.int .i64 (l.getD (k * 3 + 2) 0)) := pt (k * 3 + 2) (by omega)
                  have HPk : Hid (ptF l k = (l.getD (k * 3) 0, l.getD (k * 3 + 1) 0) ∧ okC (l.getD (k * 3) 0) ∧ okC (l.getD (k * 3 + 1) 0)) := Lib.hid ⟨rfl, HCo.out k hkn⟩
                  obtain ⟨xk, hxk⟩ : ∃ x, x = l.getD (k * 3) 0 := ⟨_, rfl⟩
                  obtain ⟨yk, hyk⟩ : ∃ x, x = l.getD (k * 3 + 1) 0 := ⟨_, rfl⟩
                  obtain ⟨zk, hzk⟩ : ∃ x, x = l.getD (k * 3 + 2) 0 := ⟨_, rfl⟩
                  rw [← hxk] at k0 HPk
                  rw [← hyk] at k1 HPk
                  rw [← hzk] at k2
                  clear pt hxk hyk hzk
                  have nk : (k : Int) < (n : Int) := by omega
                  have x1 := fun d os => cell_regrown (show wp.cell? ⟨gN, 0, none⟩ = some (.int .i64 xn) from (HNB2.out.cell 0).trans rfl) d os
                  have x2 := fun d os => cell_regrown (show wp.cell? ⟨gN, 1, none⟩ = some (.int .i64 yn) from (HNB2.out.cell 1).trans rfl) d os
                  have x3 := fun d os => cell_regrown (show wp.cell? ⟨gN, 2, none⟩ = some (.int .i64 zn) from (HNB2.out.cell 2).trans rfl) d os
                  have x4 := fun d os => cell_regrown (show wp.cell? ⟨gP, 0, none⟩ = some (.int .i64 xi) from (HPB.out.cell 0).trans rfl) d os
                  have x5 := fun d os => cell_regrown (show wp.cell? ⟨gP, 1, none⟩ = some (.int .i64 yi) from (HPB.out.cell 1).trans rfl) d os
                  have x6 := fun d os => cell_regrown (show wp.cell? ⟨gP, 2, none⟩ = some (.int .i64 zi) from (HPB.out.cell 2).trans rfl) d os
                  have x7 := fun d os => cell_regrown k0 d os
                  have x8 := fun d os => cell_regrown k1 d os
                  have x9 := fun d os => cell_regrown k2 d os
                  have HQ : Hid (∀ d os, Calls Try.prog 56 #[.agg #[.int .i64 xn, .int .i64 yn, .int .i64 zn], .agg #[.int .i64 xk, .int .i64 yk, .int .i64 zk], .agg #[.int .i64 xi, .int .i64 yi, .int .i64 zi]] (Sort.grow (redrawn wp d) os) fun e w' => e = .returned (.int .i64 (crs (xn, yn) (ptF l k) (ptF l i))) ∧ ∃ p : Regrown, w' = Sort.grow (redrawn wp p.d) p.os) := Lib.hid fun d os => by
                    rw [HPk.out.1, HPi.out.1]
                    exact Calls.regrown_of (refCross_any xn yn zn xk yk zk xi yi zi (Sort.grow (redrawn wp d) os) HNow.out.2.1 HNow.out.2.2 HPk.out.2.1 HPk.out.2.2 HPi.out.2.1 HPi.out.2.2)
                  obtain ⟨cv, hcv⟩ : ∃ cv, cv = crs (xn, yn) (ptF l k) (ptF l i) := ⟨_, rfl⟩
                  have HCv := Lib.hid hcv
                  rw [← hcv] at HQ
                  clear hcv k0 k1 k2 hneg t3
                  refine wp_region_quiet_below (by kernel_rfl) (by kernel_rfl) ?_
                  repeat (quiet_step ((go_at_call 56; exact HQ.out _ _)))
                  refine wpQuiet_nil ?_
                  intro _ hw'
                  obtain ⟨⟨dq, osq⟩, hw''⟩ := hw'
                  subst hw''
                  have HW3 := Lib.hid (below_regrown wp dq osq)
                  have HB3 := Lib.hid (HB2.out.trans (HW3.out.mono HB2.out.size))
                  have HO3 := Lib.hid (own_size HO2.out HW3.out)
                  have HNB3 := Lib.hid (HNB2.out.below HW3.out HNB2.out.lt)
                  have HPB3 := Lib.hid (HPB.out.below HW3.out HPB.out.lt)
                  have y7 := x7 dq osq
                  have y8 := x8 dq osq
                  have y9 := x9 dq osq
                  clear x1 x2 x3 x4 x5 x6 x7 x8 x9 HQ HW3 HB2 HO2 HNB2 HPB
                  generalize Sort.grow (redrawn wp dq) osq = w3 at *
                  have HStep : Hid ((cv < 0 ∨ (cv = 0 ∧ dst (xn, yn) (ptF l k) < dst (xn, yn) (ptF l i)) → nxt (ptF l) (xn, yn) (i + 1) = i) ∧ (¬ (cv < 0 ∨ (cv = 0 ∧ dst (xn, yn) (ptF l k) < dst (xn, yn) (ptF l i))) → nxt (ptF l) (xn, yn) (i + 1) = k)) := Lib.hid (by
                    rw [HN1.out, ← HX.out, HCv.out]
                    exact ⟨fun h => nstep_yes HDf.out (by omega) h, fun h => nstep_no HDf.out (by omega) h⟩)
                  by_cases hc1 : cv < 0
                  · have t4 : decide (cv < 0) = true := decide_eq_true hc1
                    go_wp2_with fail
                    go_quiet (fail)
                    go_wp2
                    go_roundw
                    case rel => exact ⟨i + 1, (i : Int), by omega, by go_num, rfl, by omega, by omega, Lib.hid (HStep.out.1 (.inl hc1)).symm, Lib.hid (show Blk (w3.drewN nq) gN _ _ from HNB3.out), Lib.hid (show (w3.drewN nq).ownsRow w.heap.size 3 1 (.slice (some ⟨g5, 0, none⟩) (j + 1) cap5) (j + 1) ((natH (H.take (j + 1))).map (Value.int .i64)) from HO3.out), Lib.hid (below_drewN HB3.out nq)⟩
                    case measure => simp [intOf]; omega
                  · have t4 : decide (cv < 0) = false := decide_eq_false hc1
                    by_cases hc2 : cv = 0
                    · have t5 : (cv == 0) = true := beq_iff_eq.2 hc2
                      have HC2 := Lib.hid hc2
                      clear hc2 hc1
                      have x1 := fun d os => cell_regrown (show w3.cell? ⟨gN, 0, none⟩ = some (.int .i64 xn) from (HNB3.out.cell 0).trans rfl) d os
                      have x2 := fun d os => cell_regrown (show w3.cell? ⟨gN, 1, none⟩ = some (.int .i64 yn) from (HNB3.out.cell 1).trans rfl) d os
                      have x3 := fun d os => cell_regrown (show w3.cell? ⟨gN, 2, none⟩ = some (.int .i64 zn) from (HNB3.out.cell 2).trans rfl) d os
                      have x4 := fun d os => cell_regrown (show w3.cell? ⟨gP, 0, none⟩ = some (.int .i64 xi) from (HPB3.out.cell 0).trans rfl) d os
                      have x5 := fun d os => cell_regrown (show w3.cell? ⟨gP, 1, none⟩ = some (.int .i64 yi) from (HPB3.out.cell 1).trans rfl) d os
                      have x6 := fun d os => cell_regrown (show w3.cell? ⟨gP, 2, none⟩ = some (.int .i64 zi) from (HPB3.out.cell 2).trans rfl) d os
                      have x7 := fun d os => cell_regrown y7 d os
                      have x8 := fun d os => cell_regrown y8 d os
                      have x9 := fun d os => cell_regrown y9 d os
                      obtain ⟨D1, hD1⟩ : ∃ D, D = dst (xn, yn) (ptF l i) := ⟨_, rfl⟩
                      obtain ⟨D2, hD2⟩ : ∃ D, D = dst (xn, yn) (ptF l k) := ⟨_, rfl⟩
                      rw [← hD1, ← hD2] at HStep
                      have HQ1 : Hid (∀ d os, Calls Try.prog 42 #[.agg #[.int .i64 xn, .int .i64 yn, .int .i64 zn], .agg #[.int .i64 xi, .int .i64 yi, .int .i64 zi]] (Sort.grow (redrawn w3 d) os) fun e w' => e = .returned (.int .i64 D1) ∧ ∃ p : Regrown, w' = Sort.grow (redrawn w3 p.d) p.os) := Lib.hid fun d os => by
                        rw [hD1, HPi.out.1]
                        unfold dst
                        exact Calls.regrown_of (refDist2_any xn yn zn xi yi zi (Sort.grow (redrawn w3 d) os) HNow.out.2.1 HNow.out.2.2 HPi.out.2.1 HPi.out.2.2)
                      have HQ2 : Hid (∀ d os, Calls Try.prog 42 #[.agg #[.int .i64 xn, .int .i64 yn, .int .i64 zn], .agg #[.int .i64 xk, .int .i64 yk, .int .i64 zk]] (Sort.grow (redrawn w3 d) os) fun e w' => e = .returned (.int .i64 D2) ∧ ∃ p : Regrown, w' = Sort.grow (redrawn w3 p.d) p.os) := Lib.hid fun d os => by
                        rw [hD2, HPk.out.1]
                        unfold dst
                        exact Calls.regrown_of (refDist2_any xn yn zn xk yk zk (Sort.grow (redrawn w3 d) os) HNow.out.2.1 HNow.out.2.2 HPk.out.2.1 HPk.out.2.2)
                      clear hD1 hD2 y7 y8 y9
                      by_cases hd : D2 < D1
                      · have t6 : decide (D2 < D1) = true := decide_eq_true hd
                        go_wp2_with fail
                        refine wp_region_quiet_below (by kernel_rfl) (by kernel_rfl) ?_
                        repeat (quiet_step (first | (go_at_call 42; with_reducible exact HQ1.out _ _) | (go_at_call 42; with_reducible exact HQ2.out _ _)))
                        refine wpQuiet_nil ?_
                        intro _ hw'
                        obtain ⟨⟨dq, osq⟩, hw''⟩ := hw'
                        subst hw''
                        have HW4 := Lib.hid (below_regrown w3 dq osq)
                        have HB4 := Lib.hid (HB3.out.trans (HW4.out.mono HB3.out.size))
                        have HO4 := Lib.hid (own_size HO3.out HW4.out)
                        have HNB4 := Lib.hid (HNB3.out.below HW4.out HNB3.out.lt)
                        clear x1 x2 x3 x4 x5 x6 x7 x8 x9 HQ1 HQ2 HW4 HB3 HO3 HNB3 HPB3
                        generalize Sort.grow (redrawn w3 dq) osq = w4 at *
                        go_wp2
                        go_roundw
                        case rel => exact ⟨i + 1, (i : Int), by omega, by go_num, rfl, by omega, by omega, Lib.hid (HStep.out.1 (.inr ⟨HC2.out, hd⟩)).symm, HNB4, HO4, HB4⟩
                        case measure => simp [intOf]; omega
                      · have t6 : decide (D2 < D1) = false := decide_eq_false hd
                        go_wp2_with fail
                        refine wp_region_quiet_below (by kernel_rfl) (by kernel_rfl) ?_
                        repeat (quiet_step (first | (go_at_call 42; with_reducible exact HQ1.out _ _) | (go_at_call 42; with_reducible exact HQ2.out _ _)))
                        refine wpQuiet_nil ?_
                        intro _ hw'
                        obtain ⟨⟨dq, osq⟩, hw''⟩ := hw'
                        subst hw''
                        have HW4 := Lib.hid (below_regrown w3 dq osq)
                        have HB4 := Lib.hid (HB3.out.trans (HW4.out.mono HB3.out.size))
                        have HO4 := Lib.hid (own_size HO3.out HW4.out)
                        have HNB4 := Lib.hid (HNB3.out.below HW4.out HNB3.out.lt)
                        clear x1 x2 x3 x4 x5 x6 x7 x8 x9 HQ1 HQ2 HW4 HB3 HO3 HNB3 HPB3
                        generalize Sort.grow (redrawn w3 dq) osq = w4 at *
                        go_wp2
                        go_roundw
                        case rel => exact ⟨i + 1, (k : Int), by omega, by go_num, rfl, by omega, by omega, Lib.hid (HStep.out.2 (by have := HC2.out; omega)).symm, HNB4, HO4, HB4⟩
                        case measure => simp [intOf]; omega
                    · have t5 : (cv == 0) = false := beq_eq_false_iff_ne.2 hc2
                      go_wp2_with fail
                      go_quiet (fail)
                      go_wp2
                      go_roundw
                      case rel => exact ⟨i + 1, (k : Int), by omega, by go_num, rfl, by omega, by omega, Lib.hid (HStep.out.2 (by omega)).symm, Lib.hid (show Blk (w3.drewN nq) gN _ _ from HNB3.out), Lib.hid (show (w3.drewN nq).ownsRow w.heap.size 3 1 (.slice (some ⟨g5, 0, none⟩) (j + 1) cap5) (j + 1) ((natH (H.take (j + 1))).map (Value.int .i64)) from HO3.out), Lib.hid (below_drewN HB3.out nq)⟩
                      case measure => simp [intOf]; omega
          · obtain rfl : n = i := by omega
            have hNx : nx = nxt (ptF l) (ptF l (H.getD j 0)) n := by rw [HX.out, ← HNow.out.1, HA.out]
            have HE1 : Hid (j + 1 = H.length → H.take (j + 1) = H) := Lib.hid fun h => by rw [h, List.take_length]
            have hlenj : ((natH (H.take (j + 1))).map (Value.int .i64)).length = j + 1 := by rw [List.length_map, natH_len, List.length_take]; omega
            by_cases hone : H.length = 1
            · have hm1 : nx = -1 := by
                rw [hNx, show j = 0 from by omega]
                exact HH.out.next1 hone
              clear hNx HX hlenj
              subst hm1
              go_wp2_with fail
              go_quiet (fail)
              go_wp2
              go_ret
              refine ⟨.slice (some ⟨g5, 0, none⟩) (j + 1) cap5, rfl, ?_, below_drewN HB1.out _⟩
              have h1 := HO1.out
              rw [HE1.out (by omega)] at h1
              rw [show H.length = j + 1 from by omega]
              exact h1
            · have hnext := HH.out.next HNr.out (by omega) j hj
              rw [← hNx] at hnext
              have hkn : H.getD ((j + 1) % H.length) 0 < n := HH.out.lt'
              have HKd : Hid (j + 1 < H.length → H.getD ((j + 1) % H.length) 0 = H.getD (j + 1) 0 ∧ ptF l (H.getD (j + 1) 0) ≠ ptF l f) := Lib.hid fun h => by
                rw [Nat.mod_eq_of_lt h, HF0.out]
                exact ⟨rfl, HH.out.dist (j + 1) (by omega) h⟩
              have HKe : Hid (j + 1 = H.length → H.getD ((j + 1) % H.length) 0 = f) := Lib.hid fun h => by rw [h, Nat.mod_self, HF0.out]
              obtain ⟨k, hk⟩ : ∃ k, k = H.getD ((j + 1) % H.length) 0 := ⟨_, rfl⟩
              rw [← hk] at hnext hkn HKd HKe
              subst hnext
              have pt : ∀ q, q < n * 3 → wi.cell? ⟨bk, off + q, none⟩ = some (.int .i64 (l.getD q 0)) := fun q hq => (HB1.out.cell (p := ⟨bk, off + q, none⟩) hbk).trans (HCs.out q hq)
              have k0 := pt (k * 3) (by omega)
              have k1 : wi.cell? ⟨bk, off + k * 3 + 1, none⟩ = some (.int .i64 (l.getD (k * 3 + 1) 0)) := pt (k * 3 + 1) (by omega)
              have f0 := pt (f * 3) (by omega)
              have f1 : wi.cell? ⟨bk, off + f * 3 + 1, none⟩ = some (.int .i64 (l.getD (f * 3 + 1) 0)) := pt (f * 3 + 1) (by omega)
              have nk : (k : Int) < (n : Int) := by omega
              have nf : (f : Int) < (n : Int) := by omega
              have t0 : decide ((k : Int) < 0) = false := decide_eq_false (by omega)
              have t00 : ¬ (k : Int) < 0 := by omega
              clear pt hk hNx hlenj
              by_cases hend : j + 1 = H.length
              · obtain rfl : k = f := HKe.out hend
                clear HKd
                generalize l.getD (k * 3) 0 = xk at *
                generalize l.getD (k * 3 + 1) 0 = yk at *
                go_wp2_with fail
                go_quiet (fail)
                go_wp2
                go_ret
                refine ⟨.slice (some ⟨g5, 0, none⟩) H.length cap5, rfl, ?_, below_drewN HB1.out _⟩
                have h1 := HO1.out
                rw [HE1.out hend, hend] at h1
                exact h1
              · have hd := HKd.out (by omega)
                have HKj := Lib.hid hd.1
                have htt : (l.getD (k * 3) 0 == l.getD (f * 3) 0) = false ∨ ((l.getD (k * 3) 0 == l.getD (f * 3) 0) = true ∧ (l.getD (k * 3 + 1) 0 == l.getD (f * 3 + 1) 0) = false) := by
                  have h2 := hd.2
                  rw [← hd.1] at h2
                  by_cases hxe : l.getD (k * 3) 0 = l.getD (f * 3) 0
                  · refine .inr ⟨beq_iff_eq.2 hxe, beq_eq_false_iff_ne.2 fun e => h2 ?_⟩
                    unfold ptF
                    rw [hxe, e]
                  · exact .inl (beq_eq_false_iff_ne.2 hxe)
                clear hd HKd
                generalize l.getD (k * 3) 0 = xk at *
                generalize l.getD (k * 3 + 1) 0 = yk at *
                generalize l.getD (f * 3) 0 = xf at *
                generalize l.getD (f * 3 + 1) 0 = yf at *
                have HTk : Hid (natH (H.take (j + 1 + 1)) = natH (H.take (j + 1)) ++ [(k : Int)]) := Lib.hid (by
                  rw [List.take_add_one, natH_app, HKj.out, gE _ _ (show j + 1 < H.length by omega), List.getElem?_eq_getElem (by omega)]; rfl)
                rcases htt with t1 | ⟨t1, t2⟩
                all_goals
                  go_wp2_with fail
                  go_quiet (fail)
                  have HB9 := Lib.hid (below_drewN HB1.out nq)
                  have HO9 : Hid ((wi.drewN nq).ownsRow w.heap.size 3 1 (.slice (some ⟨g5, 0, none⟩) (j + 1) cap5) (j + 1) ((natH (H.take (j + 1))).map (Value.int .i64))) := Lib.hid HO1.out
                  have hz9 := HB9.out.size
                  clear HB1 HO1 HNB
                  generalize wi.drewN nq = w9 at *
                  generalize (some (⟨g5, 0, none⟩ : Addr)) = A9 at HO9 ⊢
                  go_wp2_with (at_builtin; refine wpList_pushD el_int rfl (.tmp 134) (.tmp 136) rfl w.heap.size _ (j + 1) _ (HO9.out.alloc _) rfl w9.heap.size 1 _ rfl (new_cell rfl) rfl (by omega) (by omega) (by simp; omega) ?_; intro v6 w6 hown6 hg6 hl6)
                  go_roundw
                  case rel => exact ⟨j + 1, by omega, Lib.hid (by rw [HTk.out, List.map_append]; exact hown6), Lib.hid (below_push (HB9.out.alloc hz9 _) (HO9.out.alloc _) (Nat.le_refl _) (by simp; omega) hg6)⟩
                  case measure =>
                    obtain ⟨A6, c6, rfl⟩ := own_shape hown6
                    show H.length - (j + 1 + 1) < H.length - (j + 1)
                    omega
end Go.Proofs.Ythiccmncdmohbaa
