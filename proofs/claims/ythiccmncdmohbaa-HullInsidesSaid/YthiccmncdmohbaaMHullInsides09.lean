/-
  Contracts of hull.turn and hull.side: the chain of left turns over a row of places. Conditions: the points can be read; their coordinates are within 2^20 either way.
-/
import Derived.Test.YthiccmncdmohbaaMHullInsides00
import Derived.Test.YthiccmncdmohbaaMHullInsides08
import Derived.Test.YthiccmncdmohbaaMHullInsides06
import Derived.Lib.QuietBelow
import Derived.Deep.CutRange
set_option linter.unusedVariables false
set_option linter.unusedSimpArgs false
namespace Go.Proofs.Ythiccmncdmohbaa
open Go Go.RowKit Go.Dam Go.Dam.Hull
set_option linter.unusedVariables false
set_option maxHeartbeats 1000000 in
theorem hullTurn_any (x0 y0 z0 x1 y1 z1 x2 y2 z2 : Int) (w : World) (hx0 : okC x0) (hy0 : okC y0) (hx1 : okC x1) (hy1 : okC y1) (hx2 : okC x2) (hy2 : okC y2) :
    Calls Try.prog 78 #[.agg #[.int .i64 x0, .int .i64 y0, .int .i64 z0], .agg #[.int .i64 x1, .int .i64 y1, .int .i64 z1], .agg #[.int .i64 x2, .int .i64 y2, .int .i64 z2]] w fun e w' => e = .returned (.int .i64 (trn (x0, y0) (x1, y1) (x2, y2))) ∧ Below w.heap.size w w' := by
  unfold okC at *
  obtain ⟨a, ha⟩ : ∃ d, x1 - x0 = d := ⟨_, rfl⟩
  obtain ⟨b, hb⟩ : ∃ d, y2 - y0 = d := ⟨_, rfl⟩
  obtain ⟨c, hc⟩ : ∃ d, y1 - y0 = d := ⟨_, rfl⟩
  obtain ⟨d, hd⟩ : ∃ d, x2 - x0 = d := ⟨_, rfl⟩
  have HR : Hid (trn (x0, y0) (x1, y1) (x2, y2) = a * b - c * d) := Lib.hid (by unfold trn; show (x1 - x0) * (y2 - y0) - (y1 - y0) * (x2 - x0) = _; rw [ha, hb, hc, hd])
  have mul_bd : ∀ p q : Int, -2097152 ≤ p → p ≤ 2097152 → -2097152 ≤ q → q ≤ 2097152 → -4398046511104 ≤ p * q ∧ p * q ≤ 4398046511104 := fun p q h1 h2 h3 h4 => by
    have e1 : 0 ≤ (p + 2097152) * (q + 2097152) := Int.mul_nonneg (by omega) (by omega)
    have e2 : 0 ≤ (2097152 - p) * (2097152 - q) := Int.mul_nonneg (by omega) (by omega)
    have e3 : 0 ≤ (p + 2097152) * (2097152 - q) := Int.mul_nonneg (by omega) (by omega)
    have e4 : 0 ≤ (2097152 - p) * (q + 2097152) := Int.mul_nonneg (by omega) (by omega)
    simp only [Int.add_mul, Int.mul_add, Int.sub_mul, Int.mul_sub] at e1 e2 e3 e4
    omega
  have m1 := mul_bd a b (by omega) (by omega) (by omega) (by omega)
  have m2 := mul_bd c d (by omega) (by omega) (by omega) (by omega)
  have w1 : wrap64 (x1 - x0) = a := by unfold wrap64; omega
  have w2 : wrap64 (y2 - y0) = b := by unfold wrap64; omega
  have w3 : wrap64 (y1 - y0) = c := by unfold wrap64; omega
  have w4 : wrap64 (x2 - x0) = d := by unfold wrap64; omega
  have w5 : wrap64 (a * b) = a * b := by generalize a * b = p at *; unfold wrap64; omega
  have w6 : wrap64 (c * d) = c * d := by generalize c * d = p at *; unfold wrap64; omega
  have w7 : wrap64 (a * b - c * d) = a * b - c * d := by generalize a * b = p at *; generalize c * d = q at *; unfold wrap64; omega
  rw [HR.out]
  clear ha hb hc hd hx0 hy0 hx1 hy1 hx2 hy2 mul_bd m1 m2
  go_enter Try.func78, Try.ntmps78
  go_wp2_with fail
  go_ret
  refine ⟨?_, ?_⟩
  · show Ending.returned (.int .i64 (wrap64 (a * b - c * d))) = _
    rw [w7]
  exact (((Below.refl _ _).alloc (Nat.le_refl _) _).alloc (by simp) _).alloc (by simp; omega) _
theorem own_atH {w : World} {base g n c : Nat} {r : List Nat} (h : w.ownsRow base 3 1 (.slice (some ⟨g, 0, none⟩) n c) n ((natH r).map (Value.int .i64))) (hl : r.length = n) {i : Nat} (hi : i < n) : w.cell? ⟨g, i, none⟩ = some (.int .i64 ((r.getD i 0 : Nat) : Int)) := by
  have h1 := natH_at r i
  rw [List.getD_eq_getElem?_getD, List.getElem?_eq_getElem (by rw [natH_len]; omega)] at h1
  rw [h.cellAt i (by omega), List.getElem?_map, List.getElem?_eq_getElem (by rw [natH_len]; omega), ← h1]; rfl
set_option maxRecDepth 100000 in
set_option maxHeartbeats 8000000 in
theorem hullSide_any (n c bk off : Nat) (l : List Int) (o : List Nat) (m co go' : Nat) (w : World) (hn : n ≤ 150) (hm : m ≤ 150) (hbk : bk < w.heap.size) (hol : o.length = m) (ho : ∀ u, u < m → o.getD u 0 < n)
    (hco : ∀ i, i < n → okC (l.getD (i * 3) 0) ∧ okC (l.getD (i * 3 + 1) 0))
    (hcs : ∀ j, j < n * 3 → w.cell? ⟨bk, off + j, none⟩ = some (.int .i64 (l.getD j 0))) (hos : ∀ u, u < m → w.cell? ⟨go', u, none⟩ = some (.int .i64 ((o.getD u 0 : Nat) : Int))) :
    Calls Try.prog 53 #[.slice (some ⟨bk, off, none⟩) n c, .slice (some ⟨go', 0, none⟩) m co] w fun e w' => ∃ v', e = .returned v' ∧ (chain (turns (ptF l)) o).length ≤ m ∧ w'.ownsRow w.heap.size 3 1 v' (chain (turns (ptF l)) o).length ((natH (chain (turns (ptF l)) o).reverse).map (Value.int .i64)) ∧ Below w.heap.size w w' := by
  have HCs := Lib.hid hcs
  have HOs := Lib.hid hos
  have HCo := Lib.hid hco
  have HOl := Lib.hid ho
  have HEnd : Hid (chTo (turns (ptF l)) o m = chain (turns (ptF l)) o) := Lib.hid (by rw [← hol, chTo_end])
  have HSt : Hid (∀ u, u < m → chTo (turns (ptF l)) o (u + 1) = o.getD u 0 :: pop (turns (ptF l)) (o.getD u 0) (chTo (turns (ptF l)) o u)) := Lib.hid fun u hu => chTo_s _ (by omega)
  have HT : Hid (∀ a b d, turns (ptF l) a b d = trn (l.getD (a * 3) 0, l.getD (a * 3 + 1) 0) (l.getD (b * 3) 0, l.getD (b * 3 + 1) 0) (l.getD (d * 3) 0, l.getD (d * 3 + 1) 0)) := Lib.hid fun a b d => rfl
  rw [← HEnd.out]
  clear hcs hos hco ho hol HEnd
  generalize turns (ptF l) = T at *
  go_enter Try.func53, Try.ntmps53
  go_wp2
  go_loopw [5, 7, 8, 11] (fun ov _ _ iv wr => ∃ u : Nat, u ≤ m ∧ iv = .int .i64 u ∧ Hid ((chTo T o u).length ≤ u ∧ (∀ x ∈ chTo T o u, x < n) ∧ wr.ownsRow w.heap.size 3 1 ov (chTo T o u).length ((natH (chTo T o u).reverse).map (Value.int .i64))) ∧ Hid (Below w.heap.size w wr)) (fun _ _ _ iv _ => m - (intOf iv).toNat)
  case atStart => exact ⟨0, by omega, rfl, Lib.hid (by rw [chTo_0]; exact ⟨Nat.le_refl _, by simp, World.ownsRow_nil _ _ _ _⟩), Lib.hid (Below.refl _ _)⟩
  case round =>
    obtain ⟨u, hu, rfl, HO, HB⟩ := hrel
    obtain ⟨A4, c4, rfl⟩ := own_shape HO.out.2.2
    by_cases hlt : u < m
    · have b0 := (HB.out.cell (p := ⟨go', u, none⟩) (cell_lt (HOs.out u hlt))).trans (HOs.out u hlt)
      have hpl := HOl.out u hlt
      have HS1 := Lib.hid (HSt.out u hlt)
      obtain ⟨i, hi⟩ : ∃ i, i = o.getD u 0 := ⟨_, rfl⟩
      rw [← hi] at b0 hpl HS1
      clear hi
      generalize chTo T o u = st0 at *
      have hst150 : st0.length ≤ u := HO.out.1
      obtain ⟨wo, rfl⟩ : ∃ wo : World, wo = wr := ⟨_, rfl⟩
      go_wp2
      go_loopw [5, 8] (fun ov nv wr => ∃ st : List Nat, nv = .int .i64 st.length ∧ st.length ≤ u ∧ Hid (pop T i st = pop T i st0 ∧ (∀ x ∈ st, x < n) ∧ wr.ownsRow w.heap.size 3 1 ov st.length ((natH st.reverse).map (Value.int .i64))) ∧ Hid (Below w.heap.size w wr)) (fun _ nv _ => (intOf nv).toNat)
      case atStart => exact ⟨st0, rfl, hst150, Lib.hid ⟨rfl, HO.out.2.1, HO.out.2.2⟩, HB⟩
      case round =>
        clear HB HO b0
        obtain ⟨st, rfl, hstu, HO, HB⟩ := hrel
        obtain ⟨A5, c5, rfl⟩ := own_shape HO.out.2.2
        rcases Nat.lt_or_ge 1 st.length with hlong | hshort
        · obtain ⟨a, b, r, rfl⟩ : ∃ a b r, st = a :: b :: r := by
            match st, hlong with
            | a :: b :: r, _ => exact ⟨a, b, r, rfl⟩
          obtain ⟨k, hk⟩ : ∃ k, k = r.length := ⟨_, rfl⟩
          have hlen : (a :: b :: r).length = k + 2 := by rw [hk]; rfl
          obtain ⟨g5, cap5, hv5, hb5, hlt5⟩ := HO.out.2.2.form (by omega)
          injection hv5 with hA5 _ hc5
          subst hA5 hc5
          have HL := Lib.hid hlen
          have oa : wr.cell? ⟨g5, k + 1, none⟩ = some (.int .i64 (a : Int)) := by
            have h1 := own_atH HO.out.2.2 (by simp) (show k + 1 < (a :: b :: r).length by omega)
            rw [getD_rev _ _ (by omega), hlen, show k + 2 - 1 - (k + 1) = 0 from by omega] at h1
            exact h1
          have ob : wr.cell? ⟨g5, k, none⟩ = some (.int .i64 (b : Int)) := by
            have h1 := own_atH HO.out.2.2 (by simp) (show k < (a :: b :: r).length by omega)
            rw [getD_rev _ _ (by omega), hlen, show k + 2 - 1 - k = 1 from by omega] at h1
            exact h1
          have ha : a < n := HO.out.2.1 a (by simp)
          have hb : b < n := HO.out.2.1 b (by simp)
          have pt : ∀ j, j < n * 3 → wr.cell? ⟨bk, off + j, none⟩ = some (.int .i64 (l.getD j 0)) := fun j hj => (HB.out.cell (p := ⟨bk, off + j, none⟩) hbk).trans (HCs.out j hj)
          have a0 := pt (a * 3) (by omega)
          have a1 : wr.cell? ⟨bk, off + a * 3 + 1, none⟩ = some (.int .i64 (l.getD (a * 3 + 1) 0)) := pt (a * 3 + 1) (by omega)
          have a2 : wr.cell? ⟨bk, off + a * 3 + 2, none⟩ = some (.int .i64 (l.getD (a * 3 + 2) 0)) := pt (a * 3 + 2) (by omega)
          have b0 := pt (b * 3) (by omega)
          have b1 : wr.cell? ⟨bk, off + b * 3 + 1, none⟩ = some (.int .i64 (l.getD (b * 3 + 1) 0)) := pt (b * 3 + 1) (by omega)
          have b2 : wr.cell? ⟨bk, off + b * 3 + 2, none⟩ = some (.int .i64 (l.getD (b * 3 + 2) 0)) := pt (b * 3 + 2) (by omega)
          have i0 := pt (i * 3) (by omega)
          have i1 : wr.cell? ⟨bk, off + i * 3 + 1, none⟩ = some (.int .i64 (l.getD (i * 3 + 1) 0)) := pt (i * 3 + 1) (by omega)
          have i2 : wr.cell? ⟨bk, off + i * 3 + 2, none⟩ = some (.int .i64 (l.getD (i * 3 + 2) 0)) := pt (i * 3 + 2) (by omega)
          have ca := HCo.out a ha
          have cb := HCo.out b hb
          have ci := HCo.out i hpl
          have HTv := Lib.hid (HT.out b a i)
          obtain ⟨xa, hxa⟩ : ∃ x, x = l.getD (a * 3) 0 := ⟨_, rfl⟩
          rw [← hxa] at a0 ca HTv
          clear hxa
          obtain ⟨ya, hya⟩ : ∃ x, x = l.getD (a * 3 + 1) 0 := ⟨_, rfl⟩
          rw [← hya] at a1 ca HTv
          clear hya
          obtain ⟨za, hza⟩ : ∃ x, x = l.getD (a * 3 + 2) 0 := ⟨_, rfl⟩
          rw [← hza] at a2
          clear hza
          obtain ⟨xb, hxb⟩ : ∃ x, x = l.getD (b * 3) 0 := ⟨_, rfl⟩
          rw [← hxb] at b0 cb HTv
          clear hxb
          obtain ⟨yb, hyb⟩ : ∃ x, x = l.getD (b * 3 + 1) 0 := ⟨_, rfl⟩
          rw [← hyb] at b1 cb HTv
          clear hyb
          obtain ⟨zb, hzb⟩ : ∃ x, x = l.getD (b * 3 + 2) 0 := ⟨_, rfl⟩
          rw [← hzb] at b2
          clear hzb
          obtain ⟨xi, hxi⟩ : ∃ x, x = l.getD (i * 3) 0 := ⟨_, rfl⟩
          rw [← hxi] at i0 ci HTv
          clear hxi
          obtain ⟨yi, hyi⟩ : ∃ x, x = l.getD (i * 3 + 1) 0 := ⟨_, rfl⟩
          rw [← hyi] at i1 ci HTv
          clear hyi
          obtain ⟨zi, hzi⟩ : ∃ x, x = l.getD (i * 3 + 2) 0 := ⟨_, rfl⟩
          rw [← hzi] at i2
          clear hzi
          have HQ : Hid (∀ d os, Calls Try.prog 78 #[.agg #[.int .i64 xb, .int .i64 yb, .int .i64 zb], .agg #[.int .i64 xa, .int .i64 ya, .int .i64 za], .agg #[.int .i64 xi, .int .i64 yi, .int .i64 zi]] (Sort.grow (redrawn wr d) os) fun e w' => e = .returned (.int .i64 (T b a i)) ∧ ∃ p : Regrown, w' = Sort.grow (redrawn wr p.d) p.os) := Lib.hid fun d os => by
            rw [HTv.out]
            exact Calls.regrown_of (hullTurn_any xb yb zb xa ya za xi yi zi (Sort.grow (redrawn wr d) os) cb.1 cb.2 ca.1 ca.2 ci.1 ci.2)
          have x1 := fun d os => cell_regrown oa d os
          have x2 := fun d os => cell_regrown ob d os
          have x3 := fun d os => cell_regrown a0 d os
          have x4 := fun d os => cell_regrown a1 d os
          have x5 := fun d os => cell_regrown a2 d os
          have x6 := fun d os => cell_regrown b0 d os
          have x7 := fun d os => cell_regrown b1 d os
          have x8 := fun d os => cell_regrown b2 d os
          have x9 := fun d os => cell_regrown i0 d os
          have y1 := fun d os => cell_regrown i1 d os
          have y2 := fun d os => cell_regrown i2 d os
          have na : (a : Int) < (n : Int) := by omega
          have nb : (b : Int) < (n : Int) := by omega
          have ni : (i : Int) < (n : Int) := by omega
          have e1 : (k : Int) + 2 - 2 = (k : Int) := by omega
          have e2 : (k : Int) + 2 - 1 = (k : Int) + 1 := by omega
          have e3 : ((k : Int) + 1).toNat = k + 1 := by omega
          have e4 : IntKind.i64.wrap (k : Int) = (k : Int) := by rw [IntKind.wrap_i64]; omega
          have e5 : IntKind.i64.wrap ((k : Int) + 1) = (k : Int) + 1 := by rw [IntKind.wrap_i64]; omega
          have e6 : (k : Int) < (k : Int) + 2 := by omega
          have e7 : (k : Int) + 1 < (k : Int) + 2 := by omega
          have e8 : (0 : Int) ≤ (k : Int) + 1 := by omega
          have e9 : (1 : Int) < (k : Int) + 2 := by omega
          rw [hlen]
          rw [hlen] at hstu
          obtain ⟨tv, htv⟩ : ∃ tv, tv = T b a i := ⟨_, rfl⟩
          have HTV := Lib.hid htv
          rw [← htv] at HQ
          clear oa ob a0 a1 a2 b0 b1 b2 i0 i1 i2 pt ca cb ci hlong hlen hk htv HTv
          have hcap := own_cap HO.out.2.2
          rw [HL.out] at hcap
          by_cases hneg : tv ≤ 0
          · have t1 : decide (tv ≤ 0) = true := decide_eq_true hneg
            go_wp2_with fail
            refine wp_region_quiet_below (by kernel_rfl) (by kernel_rfl) ?_
            repeat (quiet_step ((go_at_call 78; exact HQ.out _ _)))
            refine wpQuiet_nil ?_
            intro _ hw'
            obtain ⟨⟨dq, osq⟩, hw''⟩ := hw'
            subst hw''
            have HB3 := Lib.hid (HB.out.trans ((below_regrown wr dq osq).mono HB.out.size))
            have HO3 := Lib.hid (own_size HO.out.2.2 (below_regrown wr dq osq))
            have hz3 := HB3.out.size
            clear HB HQ x1 x2 x3 x4 x5 x6 x7 x8 x9 y1 y2
            generalize Sort.grow (redrawn wr dq) osq = w3 at *
            have HO4 : Hid (w3.ownsRow w.heap.size 3 1 (.slice (some ⟨g5, 0, none⟩) (k + 1) c5) (k + 1) ((natH (b :: r).reverse).map (Value.int .i64))) := Lib.hid (by
              have h1 := HO3.out
              rw [HL.out, List.reverse_cons, natH_app, List.map_append] at h1
              exact own_pop h1)
            have HLb : Hid ((b :: r).length = k + 1) := Lib.hid (by have := HL.out; simp only [List.length_cons] at this ⊢; omega)
            go_wp2
            go_roundw
            case rel => exact ⟨b :: r, by rw [HLb.out]; go_num, by rw [HLb.out]; omega, Lib.hid ⟨by rw [← HO.out.1, pop_yes (by rw [← HTV.out]; exact hneg)], fun x hx => HO.out.2.1 x (List.mem_cons_of_mem _ hx), by rw [HLb.out]; exact HO4.out⟩, HB3⟩
            case measure => simp [intOf] <;> omega
          · have t1 : decide (tv ≤ 0) = false := decide_eq_false hneg
            go_wp2_with fail
            refine wp_region_quiet_below (by kernel_rfl) (by kernel_rfl) ?_
            repeat (quiet_step ((go_at_call 78; exact HQ.out _ _)))
            refine wpQuiet_nil ?_
            intro _ hw'
            obtain ⟨⟨dq, osq⟩, hw''⟩ := hw'
            subst hw''
            have HB3 := Lib.hid (HB.out.trans ((below_regrown wr dq osq).mono HB.out.size))
            have HO3 := Lib.hid (own_size HO.out.2.2 (below_regrown wr dq osq))
            have hz3 := HB3.out.size
            clear HB HQ x1 x2 x3 x4 x5 x6 x7 x8 x9 y1 y2
            generalize Sort.grow (redrawn wr dq) osq = w3 at *
            rw [HL.out] at HO3
            generalize (some (⟨g5, 0, none⟩ : Addr)) = A6 at HO3 ⊢
            have HE : Hid (natH (i :: a :: b :: r).reverse = natH (a :: b :: r).reverse ++ [(i : Int)]) := Lib.hid (by rw [List.reverse_cons, natH_app]; rfl)
            go_wp2_with (at_builtin; refine wpList_pushD el_int rfl (.tmp 49) (.tmp 51) rfl w.heap.size _ (k + 2) _ (HO3.out.alloc _) rfl w3.heap.size 1 _ rfl (new_cell rfl) rfl (by omega) (by omega) (by simp; omega) ?_; intro v6 w6 hown6 hg6 hl6)
            go_roundw
            case rel => exact ⟨u + 1, by omega, by go_num, Lib.hid (by
              rw [HS1.out, ← HO.out.1, pop_no (by rw [← HTV.out]; omega)]
              exact ⟨by have h1 := HL.out; simp only [List.length_cons] at h1 ⊢; omega, fun x hx => by
                rcases List.mem_cons.1 hx with h | h
                · rw [h]; exact hpl
                · exact HO.out.2.1 x h, by rw [show (i :: a :: b :: r).length = (k + 2) + 1 from by have h1 := HL.out; simp only [List.length_cons] at h1 ⊢; omega, HE.out, List.map_append]; exact hown6⟩), Lib.hid (below_push (HB3.out.alloc hz3 _) (HO3.out.alloc _) (Nat.le_refl _) (by simp; omega) hg6)⟩
            case measure => simp [intOf]; omega
        · obtain ⟨q, hq⟩ : ∃ q, q = st.length := ⟨_, rfl⟩
          have HL := Lib.hid hq
          rw [← hq]
          rw [← hq] at hshort hstu HO
          have t1 : ¬ (1 : Int) < (q : Int) := by omega
          have t2 : decide ((1 : Int) < (q : Int)) = false := decide_eq_false (by omega)
          have t3 : decide (1 < q) = false := decide_eq_false (by omega)
          clear hq
          go_wp2_with fail
          go_quiet (fail)
          have HB3 := Lib.hid (below_drewN HB.out nq)
          have HO3 : Hid ((wr.drewN nq).ownsRow w.heap.size 3 1 (.slice A5 q c5) q ((natH st.reverse).map (Value.int .i64))) := Lib.hid HO.out.2.2
          have hz3 := HB3.out.size
          clear HB
          generalize wr.drewN nq = w3 at *
          have HE : Hid (natH (i :: st).reverse = natH (st).reverse ++ [(i : Int)]) := Lib.hid (by rw [List.reverse_cons, natH_app]; rfl)
          go_wp2_with (at_builtin; refine wpList_pushD el_int rfl (.tmp 49) (.tmp 51) rfl w.heap.size _ q _ (HO3.out.alloc _) rfl w3.heap.size 1 _ rfl (new_cell rfl) rfl (by omega) (by omega) (by simp; omega) ?_; intro v6 w6 hown6 hg6 hl6)
          go_roundw
          case rel => exact ⟨u + 1, by omega, by go_num, Lib.hid (by
            rw [HS1.out, ← HO.out.1, pop_short (by rw [← HL.out]; exact hshort)]
            exact ⟨by have h1 := HL.out; simp only [List.length_cons] at h1 ⊢; omega, fun x hx => by
              rcases List.mem_cons.1 hx with h | h
              · rw [h]; exact hpl
              · exact HO.out.2.1 x h, by rw [show (i :: st).length = q + 1 from by have h1 := HL.out; simp only [List.length_cons] at h1 ⊢; omega, HE.out, List.map_append]; exact hown6⟩), Lib.hid (below_push (HB3.out.alloc hz3 _) (HO3.out.alloc _) (Nat.le_refl _) (by simp; omega) hg6)⟩
          case measure => simp [intOf]; omega
    · obtain rfl : u = m := by omega
      go_wp2
      go_ret
      exact ⟨_, rfl, HO.out.1, HO.out.2.2, HB.out⟩
end Go.Proofs.Ythiccmncdmohbaa
