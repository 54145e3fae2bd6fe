/-
  Contract of the reference's cells, over any closure. Conditions: the rectangles can be read as data and are not refused; the closure turns one block, and what it lays.
-/
import Derived.Test.YtgfddolchachkaaMKleeDepths33
namespace Go.Proofs.Ytgfddolchachkaa
open Go Go.RowKit Go.Dam Go.Dam.Klee
set_option linter.unusedVariables false
set_option maxRecDepth 100000 in
set_option maxHeartbeats 16000000 in
theorem refCells_any (v : Value) (n : Nat) (l : List Int) (g : Nat) (lb : Array Value) (gB : Nat) (J : Nat → Nat → World → Prop) (w : World) (B : Nat) (hB : B ≤ gB) (h : IsFlat 4 w B v n l) (hR : rcCode n l = 0) (hD : CellOk Try.prog l n (sortI (xsOf l n)) (sortI (ysOf l n)) g lb gB J w) :
    Calls Try.prog 83 #[v, .func (.func g) #[] lb] w fun e w' => e = .returned (.tuple #[]) ∧ J (2 * n - 1) 0 w' := by
  obtain ⟨hn1, hfine⟩ := rcCode_ok hR
  have HFine := Lib.hid fun i hi => badRc_fine (hfine i hi)
  have hlow := hD.low
  have HX := Lib.hid fun W (hb : Below w.heap.size w W) => refCuts_any 130 (fun i => l.getD (i * 4) 0) (fun i => l.getD (i * 4 + 2) 0) (xsOf l) v n l W B (by have := hb.size; omega) (h.below (hb.mono (by omega))) hR (enters_of Try.func130 (by kernel_rfl) rfl) rfl (fun i _ => rfl) (fun i hi => (HFine.out i hi).2.1) fun i W _ => cells1_any _ _ _ _ W
  have HY := Lib.hid fun W (hb : Below w.heap.size w W) => refCuts_any 131 (fun i => l.getD (i * 4 + 1) 0) (fun i => l.getD (i * 4 + 3) 0) (ysOf l) v n l W B (by have := hb.size; omega) (h.below (hb.mono (by omega))) hR (enters_of Try.func131 (by kernel_rfl) rfl) rfl (fun i _ => rfl) (fun i hi => (HFine.out i hi).2.2.2.1) fun i W _ => cells2_any _ _ _ _ W
  obtain ⟨cx, hcx⟩ : ∃ c, sortI (xsOf l n) = c := ⟨_, rfl⟩
  obtain ⟨cy, hcy⟩ : ∃ c, sortI (ysOf l n) = c := ⟨_, rfl⟩
  have HXr : Hid (CutRow (xsOf l n) cx) := Lib.hid (hcx ▸ cutRow_sort _)
  have HYr : Hid (CutRow (ysOf l n) cy) := Lib.hid (hcy ▸ cutRow_sort _)
  have HXn : Hid (NearAll cx) := Lib.hid fun z hz => by
    obtain ⟨q, hq, e⟩ := xs_mem ((HXr.out.2 z).1 hz)
    have := HFine.out q hq; omega
  have HYn : Hid (NearAll cy) := Lib.hid fun z hz => by
    obtain ⟨q, hq, e⟩ := ys_mem ((HYr.out.2 z).1 hz)
    have := HFine.out q hq; omega
  have HXl : Hid (cx.length = 2 * n) := Lib.hid (by rw [← hcx, sortI_len, xs_len])
  have HYl : Hid (cy.length = 2 * n) := Lib.hid (by rw [← hcy, sortI_len, ys_len])
  obtain ⟨K, hK⟩ : ∃ K, K = 2 * n := ⟨_, rfl⟩
  have hK80 : K ≤ 80 := by omega
  rw [← hK] at HXl HYl ⊢
  rw [hcx, hcy] at hD
  have HD := Lib.hid hD
  have HXv : Hid (∀ W (hb : Below w.heap.size w W), Calls Try.prog 129 #[v, .func (.func 130) #[] #[]] W fun e w' => ∃ u, e = .returned u ∧ w'.ownsRow W.heap.size 3 1 u K (cx.map (Value.int .i64)) ∧ Below W.heap.size W w') := Lib.hid fun W hb => by
    have := HX.out W hb; rw [hcx, ← hK] at this; exact this
  have HYv : Hid (∀ W (hb : Below w.heap.size w W), Calls Try.prog 129 #[v, .func (.func 131) #[] #[]] W fun e w' => ∃ u, e = .returned u ∧ w'.ownsRow W.heap.size 3 1 u K (cy.map (Value.int .i64)) ∧ Below W.heap.size W w') := Lib.hid fun W hb => by
    have := HY.out W hb; rw [hcy, ← hK] at this; exact this
  have HK := Lib.hid hK
  obtain ⟨A, c, rfl, hc, hm, hn, hl, hr, hw⟩ := h
  clear hfine hR hD hw hcx hcy HX HY hK
  go_enter Try.func83, Try.ntmps83
  go_wp2_with (first
    | (go_at_call 129; with_reducible refine (HXv.out _ (Below.refl _ _)).mono ?_; rintro e w1 ⟨u1, rfl, hown1, hb1⟩; have HO1 := Lib.hid hown1; have HB1 := Lib.hid hb1; obtain ⟨A1, c1, rfl⟩ := own_shape hown1; clear hown1 hb1)
    | (go_at_call 129; with_reducible refine (HYv.out _ HB1.out).mono ?_; rintro e w2 ⟨u2, rfl, hown2, hb2⟩; have HO2 := Lib.hid hown2; have HB2 := Lib.hid hb2; obtain ⟨A2, c2, rfl⟩ := own_shape hown2; clear hown2 hb2))
  have hz1 := HB1.out.size
  have hz2 := HB2.out.size
  have HC0 : Hid (CInv 3 J cx cy w.heap.size gB K (.slice A1 K c1) (.slice A2 K c2) w 0 0 w2) := Lib.hid ⟨HD.out.grow _ _ _ _ HD.out.zero (HB1.out.trans (HB2.out.mono hz1)), own_size HO1.out HB2.out, own_base HO2.out hz1, .of_below (HB1.out.trans (HB2.out.mono hz1))⟩
  clear HO1 HO2 HB1 HB2 HXv HYv
  go_loopw [6] (fun iv wr => ∃ i : Nat, (i + 1 ≤ K ∨ K = 0 ∧ i = 0) ∧ iv = .int .i64 i ∧ Hid (CInv 3 J cx cy w.heap.size gB K (.slice A1 K c1) (.slice A2 K c2) w i 0 wr)) (fun iv _ => K - (intOf iv).toNat)
  case atStart => exact ⟨0, by omega, rfl, HC0⟩
  case round =>
    clear HC0
    obtain ⟨wo, rfl⟩ : ∃ wo : World, wo = wr := ⟨_, rfl⟩
    obtain ⟨i, hi, rfl, HI⟩ := hrel
    have wi1 : IntKind.i64.wrap ((i : Int) + 1) = (i : Int) + 1 := by rw [IntKind.wrap_i64]; omega
    by_cases hlt : i + 1 < K
    · have t1 : decide ((i : Int) + 1 < (K : Int)) = true := decide_eq_true (by omega)
      go_wp2_with fail
      go_loopw [7] (fun kv wr => ∃ k : Nat, k + 1 ≤ K ∧ kv = .int .i64 k ∧ Hid (CInv 3 J cx cy w.heap.size gB K (.slice A1 K c1) (.slice A2 K c2) w i k wr)) (fun kv _ => K - (intOf kv).toNat)
      case atStart => exact ⟨0, by omega, rfl, HI⟩
      case round =>
        clear HI
        obtain ⟨wi, rfl⟩ : ∃ wi : World, wi = wr := ⟨_, rfl⟩
        obtain ⟨k, hk, rfl, HI⟩ := hrel
        have wk1 : IntKind.i64.wrap ((k : Int) + 1) = (k : Int) + 1 := by rw [IntKind.wrap_i64]; omega
        by_cases hlt2 : k + 1 < K
        · have t2 : decide ((k : Int) + 1 < (K : Int)) = true := decide_eq_true (by omega)
          obtain ⟨gx, cpx, hvx, hgx, hltx⟩ := HI.out.2.1.form (by omega)
          obtain ⟨gy, cpy, hvy, hgy, hlty⟩ := HI.out.2.2.1.form (by omega)
          obtain rfl : A1 = some ⟨gx, 0, none⟩ := by injection hvx
          obtain rfl : A2 = some ⟨gy, 0, none⟩ := by injection hvy
          have HAt : Hid (∀ W, CInv 3 J cx cy w.heap.size gB K (.slice (some ⟨gx, 0, none⟩) K c1) (.slice (some ⟨gy, 0, none⟩) K c2) w i k W → W.cell? ⟨gx, i, none⟩ = some (.int .i64 (cx.getD i 0)) ∧ W.cell? ⟨gx, i + 1, none⟩ = some (.int .i64 (cx.getD (i + 1) 0)) ∧ W.cell? ⟨gy, k, none⟩ = some (.int .i64 (cy.getD k 0)) ∧ W.cell? ⟨gy, k + 1, none⟩ = some (.int .i64 (cy.getD (k + 1) 0))) := Lib.hid fun W h => ⟨own_atI h.2.1 HXl.out (by omega), own_atI h.2.1 HXl.out hlt, own_atI h.2.2.1 HYl.out (by omega), own_atI h.2.2.1 HYl.out hlt2⟩
          have hx1 := HXr.out.1 i (by have := HXl.out; omega)
          have hy1 := HYr.out.1 k (by have := HYl.out; omega)
          have nx0 := HXn.out.at_ (k := i) (by have := HXl.out; omega)
          have nx1 := HXn.out.at_ (k := i + 1) (by have := HXl.out; omega)
          have ny0 := HYn.out.at_ (k := k) (by have := HYl.out; omega)
          have ny1 := HYn.out.at_ (k := k + 1) (by have := HYl.out; omega)
          have HSk := Lib.hid fun W => HD.out.skip i k W (by have := HXl.out; omega) (by have := HYl.out; omega)
          have HCl := Lib.hid fun W => HD.out.call i k W (by have := HXl.out; omega) (by have := HYl.out; omega)
          obtain ⟨x0, hx0'⟩ : ∃ z, z = cx.getD i 0 := ⟨_, rfl⟩
          obtain ⟨x1, hx1'⟩ : ∃ z, z = cx.getD (i + 1) 0 := ⟨_, rfl⟩
          obtain ⟨y0, hy0'⟩ : ∃ z, z = cy.getD k 0 := ⟨_, rfl⟩
          obtain ⟨y1, hy1'⟩ : ∃ z, z = cy.getD (k + 1) 0 := ⟨_, rfl⟩
          rw [← hx0', ← hx1', ← hy0', ← hy1'] at HAt HSk HCl
          rw [← hx0', ← hx1'] at hx1
          rw [← hy0', ← hy1'] at hy1
          rw [← hx0'] at nx0
          rw [← hx1'] at nx1
          rw [← hy0'] at ny0
          rw [← hy1'] at ny1
          have hpb := mul_bd (a := x1 - x0) (b := y1 - y0) (M := 2097154) (by omega) (by omega) (by omega) (by omega)
          obtain ⟨p, hp⟩ : ∃ z, z = (x1 - x0) * (y1 - y0) := ⟨_, rfl⟩
          rw [← hp] at hpb HSk HCl
          have w1 : IntKind.i64.wrap (x1 - x0) = x1 - x0 := by rw [IntKind.wrap_i64]; omega
          have w2 : IntKind.i64.wrap (y1 - y0) = y1 - y0 := by rw [IntKind.wrap_i64]; omega
          have w3 : IntKind.i64.wrap ((x1 - x0) * (y1 - y0)) = p := by rw [← hp, IntKind.wrap_i64]; omega
          obtain ⟨a0, a1, b0, b1⟩ := HAt.out wi HI.out
          have i0 : (0 : Int) ≤ (i : Int) := by omega
          have i1 : (i : Int) < (K : Int) := by omega
          have i2 : (i : Int) + 1 < (K : Int) := by omega
          have k0 : (0 : Int) ≤ (k : Int) := by omega
          have k1 : (k : Int) < (K : Int) := by omega
          have k2 : (k : Int) + 1 < (K : Int) := by omega
          have i3 : i < K := by omega
          have k3 : k < K := by omega
          have HPv := Lib.hid hpb
          have hgy2 : gx < wi.heap.size := (HI.out.2.1.lt gx rfl).2
          have hgx2 : gy < wi.heap.size := (HI.out.2.2.1.lt gy rfl).2
          clear hvx hvy hltx hlty hx1 hy1 nx0 nx1 ny0 ny1 hx0' hx1' hy0' hy1' hp hpb
          by_cases hp0 : p = 0
          · have t3 : (p == 0) = true := by rw [hp0]; rfl
            have HS : Hid (CInv 3 J cx cy w.heap.size gB K (.slice (some ⟨gx, 0, none⟩) K c1) (.slice (some ⟨gy, 0, none⟩) K c2) w i (k + 1) wi) := Lib.hid ⟨HSk.out wi hp0 HI.out.1, HI.out.2⟩
            clear hp0
            go_wp2_with fail
            go_quiet (fail)
            go_wp2_with fail
            go_roundw
            case rel => exact ⟨k + 1, by omega, by go_num, Lib.hid (HS.out.grow HD.out.grow (below_drewN (Below.refl _ _) _))⟩
            case measure => simp [intOf]; omega
          · have t3 : (p == 0) = false := beq_eq_false_iff_ne.2 hp0
            go_wp2_with fail
            go_quiet (fail)
            go_wp2_with fail
            go_loopw [9, 55] (fun dv uv wr => ∃ u : Nat, u ≤ n ∧ uv = .int .i64 u ∧ dv = .int .i64 (deepN l u x0 y0) ∧ Hid (CInv 3 J cx cy w.heap.size gB K (.slice (some ⟨gx, 0, none⟩) K c1) (.slice (some ⟨gy, 0, none⟩) K c2) w i k wr)) (fun _ uv _ => n - (intOf uv).toNat)
            case atStart => exact ⟨0, by omega, rfl, by rw [deepN_0], Lib.hid (HI.out.grow HD.out.grow (below_drewN (Below.refl _ _) _))⟩
            case round =>
              clear HI a0 a1 b0 b1 hgy2 hgx2
              obtain ⟨wz, rfl⟩ : ∃ wz : World, wz = wr := ⟨_, rfl⟩
              obtain ⟨u, hu, rfl, rfl, HI⟩ := hrel
              by_cases hlt3 : u < n
              · obtain ⟨b, off, rfl, hb, hcells⟩ := flat_cells hr hl (by omega) (by omega)
                have hcell : ∀ q, q < n * 4 → wz.cell? ⟨b, off + q, none⟩ = some (.int .i64 (l.getD q 0)) := fun q hq => (HI.out.2.2.2.cell (p := ⟨b, off + q, none⟩) (by show b < _; omega) (by show b ≠ _; omega)).trans (hcells q hq)
                have r0 := hcell (u * 4) (by omega)
                have r1 : wz.cell? ⟨b, off + u * 4 + 1, none⟩ = some (.int .i64 (l.getD (u * 4 + 1) 0)) := hcell (u * 4 + 1) (by omega)
                have r2 : wz.cell? ⟨b, off + u * 4 + 2, none⟩ = some (.int .i64 (l.getD (u * 4 + 2) 0)) := hcell (u * 4 + 2) (by omega)
                have r3 : wz.cell? ⟨b, off + u * 4 + 3, none⟩ = some (.int .i64 (l.getD (u * 4 + 3) 0)) := hcell (u * 4 + 3) (by omega)
                have HDs := Lib.hid (deepN_s l u x0 y0)
                have hdb := deepN_bd l x0 y0 u
                generalize l.getD (u * 4) 0 = q0 at *
                generalize l.getD (u * 4 + 1) 0 = q1 at *
                generalize l.getD (u * 4 + 2) 0 = q2 at *
                generalize l.getD (u * 4 + 3) 0 = q3 at *
                obtain ⟨dd, hdd⟩ : ∃ z, z = deepN l u x0 y0 := ⟨_, rfl⟩
                rw [← hdd] at HDs hdb ⊢
                obtain ⟨bq, hbq⟩ : ∃ b, Go.Dam.inR x0 y0 q0 q1 q2 q3 = b := ⟨_, rfl⟩
                have HBq : Hid (Klee.inR (q0, q1, q2, q3) x0 y0 = bq) := Lib.hid (by rw [← hbq]; unfold Klee.inR Go.Dam.inR; simp only [Bool.and_assoc])
                rw [HBq.out] at HDs
                have HP := Lib.hid fun W => (refPointIn_any (w := W) (x := x0) (y := y0) (z := 0) (x0 := q0) (y0 := q1) (x1 := q2) (y1 := q3))
                rw [hbq] at HP
                have HIa : Hid (CInv 3 J cx cy w.heap.size gB K (.slice (some ⟨gx, 0, none⟩) K c1) (.slice (some ⟨gy, 0, none⟩) K c2) w i k (wz.alloc (.cells #[.int .i64 q0, .int .i64 q1, .int .i64 q2, .int .i64 q3] 146))) := Lib.hid (HI.out.grow HD.out.grow ((Below.refl _ _).alloc (Nat.le_refl _) _))
                have HBx := Lib.hid (Box4.new (a := .int .i64 q0) (b := .int .i64 q1) (c := .int .i64 q2) (d := .int .i64 q3) (t := 146) (w := wz) rfl)
                obtain ⟨a0, _, b0, _⟩ := HAt.out _ HIa.out
                obtain ⟨e0, e1, e2, e3⟩ := HBx.out
                have HKp : Hid (∀ W, Below (wz.alloc (.cells #[.int .i64 q0, .int .i64 q1, .int .i64 q2, .int .i64 q3] 146)).drew.heap.size (wz.alloc (.cells #[.int .i64 q0, .int .i64 q1, .int .i64 q2, .int .i64 q3] 146)).drew W → (W.cell? ⟨gx, i, none⟩ = some (.int .i64 x0) ∧ W.cell? ⟨gy, k, none⟩ = some (.int .i64 y0) ∧ W.cell? ⟨wz.heap.size, 0, none⟩ = some (.int .i64 q0) ∧ W.cell? ⟨wz.heap.size, 1, none⟩ = some (.int .i64 q1) ∧ W.cell? ⟨wz.heap.size, 2, none⟩ = some (.int .i64 q2) ∧ W.cell? ⟨wz.heap.size, 3, none⟩ = some (.int .i64 q3)) ∧ CInv 3 J cx cy w.heap.size gB K (.slice (some ⟨gx, 0, none⟩) K c1) (.slice (some ⟨gy, 0, none⟩) K c2) w i k W) := Lib.hid fun W hb => by
                  have hb' : Below (wz.alloc (.cells #[.int .i64 q0, .int .i64 q1, .int .i64 q2, .int .i64 q3] 146)).heap.size (wz.alloc (.cells #[.int .i64 q0, .int .i64 q1, .int .i64 q2, .int .i64 q3] 146)) W := (below_drewN (Below.refl _ _) 1).trans hb
                  have hi := HIa.out.grow HD.out.grow hb'
                  obtain ⟨f0, _, f1, _⟩ := HAt.out _ hi
                  obtain ⟨g0, g1, g2, g3⟩ := HBx.out.keep (w' := W) fun p hp => hb'.cell (p := p) (by rw [hp]; simp)
                  exact ⟨⟨f0, f1, g0, g1, g2, g3⟩, hi⟩
                have w9 : IntKind.i64.wrap (dd + 1) = dd + 1 := by rw [IntKind.wrap_i64]; omega
                clear hcell hcells hdd hbq hr hl HBq
                go_upto_region 14 with fail
                go_region_held3 (fun W => W.cell? ⟨gx, i, none⟩ = some (.int .i64 x0) ∧ W.cell? ⟨gy, k, none⟩ = some (.int .i64 y0) ∧ W.cell? ⟨wz.heap.size, 0, none⟩ = some (.int .i64 q0) ∧ W.cell? ⟨wz.heap.size, 1, none⟩ = some (.int .i64 q1) ∧ W.cell? ⟨wz.heap.size, 2, none⟩ = some (.int .i64 q2) ∧ W.cell? ⟨wz.heap.size, 3, none⟩ = some (.int .i64 q3))
                  (first
                    | exact ⟨a0, b0, e0, e1, e2, e3⟩
                    | exact (HKp.out _ (by assumption)).1)
                  (first
                    | (go_at_call 132; refine (HP.out _).mono ?_; rintro e wt ⟨rfl, hbt⟩))
                have HN := Lib.hid (HKp.out _ hbt).2
                clear hbt a0 b0 e0 e1 e2 e3 HKp HIa HBx HP HI
                cases bq with
                | true =>
                  go_wp2_with fail
                  go_roundw
                  case rel => exact ⟨u + 1, by omega, by go_num, by rw [HDs.out]; rfl, HN⟩
                  case measure => simp [intOf]; omega
                | false =>
                  go_wp2_with fail
                  go_roundw
                  case rel => exact ⟨u + 1, by omega, by go_num, by rw [HDs.out]; simp, HN⟩
                  case measure => simp [intOf]; omega
              · obtain rfl : u = n := by omega
                have HC9 := Lib.hid (HCl.out wz hp0 HI.out.1)
                have eg := HD.out.eg
                clear HCl HSk HAt
                go_wp2_with (go_at_fn g; refine (HC9.out).mono ?_; rintro e wt ⟨rfl, hJ, hbt⟩; have HN := Lib.hid (HI.out.but hJ hlow hbt); clear hJ hbt)
                go_roundw
                case rel => exact ⟨k + 1, by omega, by go_num, HN⟩
                case measure => simp [intOf]; omega
        · have t2 : decide ((k : Int) + 1 < (K : Int)) = false := decide_eq_false (by omega)
          have HNx : Hid (CInv 3 J cx cy w.heap.size gB K (.slice A1 K c1) (.slice A2 K c2) w (i + 1) 0 wi) := Lib.hid ⟨HD.out.next i wi (by have := HXl.out; omega) (by rw [HYl.out, show K - 1 = k by omega]; exact HI.out.1), HI.out.2⟩
          go_wp2_with fail
          go_roundw
          case rel => exact ⟨i + 1, by omega, by go_num, HNx⟩
          case measure => simp [intOf]; omega
    · have t1 : decide ((i : Int) + 1 < (K : Int)) = false := decide_eq_false (by omega)
      go_wp2_with fail
      go_end0
      exact ⟨rfl, by rw [show K - 1 = i by omega]; exact HI.out.1⟩
end Go.Proofs.Ytgfddolchachkaa
