/-
  Contract of the reference's SkyLayers: the layers of points. Conditions: the points can be read as data; the variable everywhere holds what the program's text lays.
-/
import Derived.Test.YtnkflafkalmnmaaDoorMSkyLayers22
import Derived.Test.YtnkflafkalmnmaaDoorMSkyLayers35
import Derived.Test.YtnkflafkalmnmaaDoorMSkyLayers36
import Derived.Test.YtnkflafkalmnmaaDoorMSkyLayers25
import Derived.Lib.QuietBelow
set_option linter.unusedVariables false
set_option linter.unusedSimpArgs false
namespace Go.Dam.Sky
open Go Go.RowKit Go.Dam Go.Dam.Stable
set_option linter.unusedVariables false
theorem above_B (l : List Int) (k i : Nat) : above (pX l) (pY l) k i = aboveB (l.getD (k * 3) 0) (l.getD (k * 3 + 1) 0) (l.getD (i * 3) 0) (l.getD (i * 3 + 1) 0) := rfl
/-- All points lie in the rectangle of all places. -/
theorem all_in {l : List Int} {n : Nat} (hc : ptCode n l = 0) : (List.range n).filter (inQ l (-1048576) (-1048576) 1048576 1048576) = List.range n := by
  rw [List.filter_eq_self]
  intro i hi
  have hi := List.mem_range.1 hi
  have a := badPt_fine ((ptCode_ok hc).2 i hi)
  unfold inQ Go.Dam.inR
  generalize l.getD (i * 3) 0 = x at *
  generalize l.getD (i * 3 + 1) 0 = y at *
  simp only [Bool.and_eq_true, decide_eq_true_eq]
  omega
theorem stab_sorted {lt : Int → Int → Bool} (hw : Weak lt) {l r : List Int} (h : StabR lt l r) {u v : Nat} (huv : u < v) (hv : v < r.length) : lt (r.getD v 0) (r.getD u 0) = false := by
  obtain ⟨m, _, h2, rfl⟩ := h
  rw [List.length_map] at hv
  have h3 := List.pairwise_iff_getElem.1 h2 u v (by omega) hv huv
  rw [List.getD_eq_getElem?_getD, List.getD_eq_getElem?_getD, List.getElem?_map, List.getElem?_map, List.getElem?_eq_getElem hv, List.getElem?_eq_getElem (by omega)]
  show lt (m[v]).2 (m[u]).2 = false
  rcases h3 with h3 | ⟨h3, _⟩
  · exact hw.asym _ _ h3
  · exact h3
/-- A stable sort from above is an order from above. -/
theorem stab_down {l r : List Int} {n : Nat} (h : StabR (ltPL l) (natL (List.range n)) r) : ∃ o, OrdDown (pX l) (pY l) n o ∧ r = natL o := by
  obtain ⟨o, ho, rfl⟩ := natL_perm (h.perm)
  refine ⟨o, ⟨ho, fun u v huv hv => ?_⟩, rfl⟩
  have hs := stab_sorted (ltPL_weak l) h huv (by rw [natL_len]; have := ho.length_eq; simp at this; omega)
  rw [natL_at, natL_at] at hs
  unfold ltPL ltL at hs
  rw [Int.toNat_natCast, Int.toNat_natCast] at hs
  simp only [Bool.or_eq_false_iff, Bool.and_eq_false_imp, decide_eq_true_eq, decide_eq_false_iff_not] at hs
  unfold pX pY
  omega
end Go.Dam.Sky
namespace Go.Proofs.YtnkflafkalmnmaaDoor
open Go Go.RowKit Go.Dam Go.Dam.Sky
set_option linter.unusedVariables false
/-- What the variable everywhere holds. -/
def Every (w : World) : Prop := w.cell? ⟨0, 0, none⟩ = some (.int .i64 (-1048576)) ∧ w.cell? ⟨0, 1, none⟩ = some (.int .i64 (-1048576)) ∧ w.cell? ⟨0, 2, none⟩ = some (.int .i64 1048576) ∧ w.cell? ⟨0, 3, none⟩ = some (.int .i64 1048576)
theorem Every.below {w w' : World} (h : Every w) (hb : RowKit.Below w.heap.size w w') : Every w' := by
  have h0 : 0 < w.heap.size := cell_lt h.1
  exact ⟨(hb.cell (p := ⟨0, 0, none⟩) h0).trans h.1, (hb.cell (p := ⟨0, 1, none⟩) h0).trans h.2.1, (hb.cell (p := ⟨0, 2, none⟩) h0).trans h.2.2.1, (hb.cell (p := ⟨0, 3, none⟩) h0).trans h.2.2.2⟩
/-- The state of the reference's loops. -/
def OutSt (n : Nat) (f : Nat → Int) (N : Int) (Xs : List Int) : Prop := Xs.length = n ∧ (∀ i, i < n → Xs.getD i 0 = f i) ∧ ∀ z ∈ Xs, 0 ≤ z ∧ z ≤ N
theorem OutSt.at_ {n : Nat} {f : Nat → Int} {N : Int} {Xs : List Int} (h : OutSt n f N Xs) {i : Nat} (hi : i < n) : 0 ≤ f i ∧ f i ≤ N := by
  rw [← h.2.1 i hi]
  refine h.2.2 _ ?_
  rw [List.getD_eq_getElem?_getD, List.getElem?_eq_getElem (by have := h.1; omega)]; exact List.getElem_mem _
theorem OutSt.set {n : Nat} {f : Nat → Int} {N M : Int} {Xs : List Int} (h : OutSt n f N Xs) {i : Nat} {x : Int} (hx : 0 ≤ x ∧ x ≤ M) (hN : N ≤ M) : OutSt n (upd f i x) M (Xs.set i x) :=
  ⟨by rw [List.length_set]; exact h.1, set_upd h.1 h.2.1, fun z hz => by
    rcases set_mem hz with hz | rfl
    · have := h.2.2 z hz; omega
    · exact hx⟩
theorem OutSt.more {n : Nat} {f : Nat → Int} {N M : Int} {Xs : List Int} (h : OutSt n f N Xs) (hN : N ≤ M) : OutSt n f M Xs := ⟨h.1, h.2.1, fun z hz => by have := h.2.2 z hz; omega⟩
theorem cell_butE {w w' : World} {n e : Nat} (h : BelowBut n e w w') {p : Addr} {v : Value} (hp : p.block < n) (he : p.block ≠ e) (hc : w.cell? p = some v) : w'.cell? p = some v := (h.cell hp he).trans hc
attribute [local irreducible] Go.Dam.Sky.inR Go.Dam.Sky.outR Go.Dam.Sky.above
set_option maxRecDepth 100000 in
set_option maxHeartbeats 16000000 in
theorem refLayers_any (v : Value) (n : Nat) (l : List Int) (w : World) (B : Nat) (hB : B ≤ w.heap.size) (h : IsFlat 3 w B v n l) (hE : Every w) :
    Calls Tryd.prog 6 #[v] w fun e w' => ∃ u r, e = .returned (.tuple #[u, .int .i64 (ptCode n l)]) ∧ LayersR n l r (ptCode n l) ∧ IsInts .i64 w' w'.heap.size u r ∧ RowKit.Below w.heap.size w w' := by
  have HC := Lib.hid (pointsFault_any v n l w B hB h)
  obtain ⟨cc, hcc⟩ : ∃ c, c = ptCode n l := ⟨_, rfl⟩
  rw [← hcc] at HC ⊢
  have HCc := Lib.hid hcc
  by_cases c0 : cc = 0
  rotate_left
  · obtain ⟨A, c, rfl, hc, hm, hn, hl, hr, hw⟩ := h
    have t0 : (cc != 0) = true := bne_iff_ne.2 c0
    have HR : Hid (LayersR n l [] cc) := Lib.hid ⟨hcc, fun _ => rfl, fun h => absurd h c0⟩
    clear hr hl hw hcc c0 hE
    go_enter Tryd.func6, Tryd.ntmps6
    go_wp2_with (go_at_call 12; refine (HC.out).mono ?_; rintro e w1 ⟨rfl, hb1⟩)
    go_ret2
    exact ⟨_, [], rfl, HR.out, isInts_nil _ _ _, hb1⟩
  · subst c0
    obtain ⟨hn1, hf⟩ := ptCode_ok hcc.symm
    have HAll := Lib.hid (all_in (l := l) hcc.symm)
    have HWi := Lib.hid fun W (hb : RowKit.Below w.heap.size w W) => repLWithin_any (-1048576) (-1048576) 1048576 1048576 v n l W B (Nat.le_trans hB hb.size) (h.below (hb.mono hB)) hn1
    rw [HAll.out] at HWi
    obtain ⟨A, c, rfl, hc, hm, hn, hl, hr, hw⟩ := h
    have HR := Lib.hid hr
    have HE := Lib.hid fun W (hb : RowKit.Below w.heap.size w W) => hE.below hb
    have hmk := fun w' => run_make1 el_int rfl (n : Int) n rfl (by omega) (by omega) w'
    clear hr hw hcc hf hE
    go_enter Tryd.func6, Tryd.ntmps6
    go_wp2_with (first
      | (go_at_call 12; refine (HC.out).mono ?_; rintro e w1 ⟨rfl, hb1⟩; have HB1 := Lib.hid hb1; have HBz := Lib.hid (hb1.alloc hb1.size (.cells (List.replicate n (Value.int .i64 0)).toArray 3)); have HZ := Lib.hid (IBlk.zeros (k := .i64) (t := 3) w1 n); have HEv := HE.out _ hb1; have h00 : 0 < w1.heap.size := cell_lt HEv.1; have E0 := fun o => (World.cell?_alloc_lt w1 o ⟨0, 0, none⟩ h00).trans HEv.1; have E1 := fun o => (World.cell?_alloc_lt w1 o ⟨0, 1, none⟩ h00).trans HEv.2.1; have E2 := fun o => (World.cell?_alloc_lt w1 o ⟨0, 2, none⟩ h00).trans HEv.2.2.1; have E3 := fun o => (World.cell?_alloc_lt w1 o ⟨0, 3, none⟩ h00).trans HEv.2.2.2; clear hb1 HEv h00)
      | (go_at_call 13; refine (HWi.out _ HBz.out).mono ?_; rintro e wS ⟨⟨u, r, rfl, hst, hiS, hownO⟩, hbS⟩; obtain ⟨o, hord, rfl⟩ := stab_down hst; have HOrd := Lib.hid hord; have HOw := Lib.hid hownO; have HBS := Lib.hid hbS; obtain ⟨Ao, co, rfl⟩ := own_shape hownO; clear hord hownO hbS hiS hst))
    clear hmk E0 E1 E2 E3
    have hz1 := HB1.out.size
    have hzS := HBS.out.size
    simp only [World.size_alloc] at hzS
    have HOut0 := Lib.hid (HZ.out.below HBS.out (by simp))
    have HBw : Hid (RowKit.Below w.heap.size w wS) := Lib.hid (HBz.out.trans (HBS.out.mono (by simp; omega)))
    have HOl : Hid (o.length = n) := Lib.hid (by have := HOrd.out.1.length_eq; simpa using this)
    have HNl : Hid ((natL o).length = n) := Lib.hid (by rw [natL_len, HOl.out])
    obtain ⟨gO, hgO⟩ : ∃ g, g = w1.heap.size := ⟨_, rfl⟩
    rw [← hgO] at HOut0 hzS hz1 ⊢
    rw [HNl.out]
    have HOw2 : Hid (wS.ownsRow (gO + 1) 3 1 (.slice Ao n co) n ((natL o).map (Value.int .i64))) := Lib.hid (by have := HOw.out; rw [World.size_alloc, ← hgO, HNl.out] at this; exact this)
    clear HOw HZ HBz HWi HB1 HBS hgO HE
    go_loopw [24] (fun tv wr => ∃ (t : Nat) (Xs : List Int), t ≤ n ∧ tv = .int .i64 t ∧ Hid (OutSt n (outR (pX l) (pY l) o n t) (t * 150) Xs) ∧ Hid (IBlk .i64 3 wr gO Xs) ∧ Hid (BelowBut wS.heap.size gO wS wr)) (fun tv _ => n - (intOf tv).toNat)
    case atStart => exact ⟨0, _, by omega, rfl, Lib.hid ⟨by simp, fun i hi => by rw [outR_0]; simp [hi], fun z hz => by rw [List.eq_of_mem_replicate hz]; omega⟩, HOut0, Lib.hid (BelowBut.refl _ _ _)⟩
    case round =>
      clear HOut0
      obtain ⟨wo, rfl⟩ : ∃ wo : World, wo = wr := ⟨_, rfl⟩
      obtain ⟨t, Xs, ht, rfl, HSt, HX, HBu⟩ := hrel
      by_cases hlt : t < n
      · have t1 : decide ((t : Int) < (n : Int)) = true := decide_eq_true (by omega)
        obtain ⟨go, capo, hvo, hgo, hlto⟩ := HOw2.out.form (by omega)
        obtain rfl : Ao = some ⟨go, 0, none⟩ := by injection hvo
        obtain ⟨bk, off, rfl, hbk, hcs⟩ := flat_cells HR.out hl (by omega) (by omega)
        have hwS := HBw.out.size
        have HOr : Hid (∀ W, BelowBut wS.heap.size gO wS W → ∀ u, u < n → W.cell? ⟨go, u, none⟩ = some (.int .i64 ((o.getD u 0 : Nat) : Int))) := Lib.hid fun W hb u hu => by
          have h1 := own_atS HOw2.out HNl.out hu
          rw [natL_at] at h1
          exact (hb.cell (p := ⟨go, u, none⟩) hlto (by show go ≠ gO; omega)).trans h1
        have HPt : Hid (∀ W, BelowBut wS.heap.size gO wS W → ∀ q, q < n * 3 → W.cell? ⟨bk, off + q, none⟩ = some (.int .i64 (l.getD q 0))) := Lib.hid fun W hb q hq => (hb.cell (p := ⟨bk, off + q, none⟩) (by show bk < _; omega) (by show bk ≠ gO; omega)).trans ((HBw.out.cell (p := ⟨bk, off + q, none⟩) (by show bk < _; omega)).trans (hcs q hq))
        have ha := perm_lt HOrd.out.1 hlt
        have o0 := HOr.out wo HBu.out t hlt
        have HSo := Lib.hid (outR_s (pX l) (pY l) o n t)
        have HSi := Lib.hid (HSt.out.at_ ha)
        obtain ⟨a, haa⟩ : ∃ a, a = o.getD t 0 := ⟨_, rfl⟩
        rw [← haa] at o0 ha HSo HSi
        have HA := Lib.hid haa
        have ia : (a : Int) < (n : Int) := by omega
        have w1t : IntKind.i64.wrap ((t : Int) + 1) = (t : Int) + 1 := by rw [IntKind.wrap_i64]; omega
        clear hcs haa hvo hlto hgo
        go_wp2_with fail
        go_loopw [30] (fun sv wr => ∃ (s : Nat) (Ys : List Int), s ≤ n ∧ sv = .int .i64 s ∧ Hid (OutSt n (inR (pX l) (pY l) o a s (outR (pX l) (pY l) o n t)) (t * 150 + s) Ys) ∧ Hid (IBlk .i64 3 wr gO Ys) ∧ Hid (BelowBut wS.heap.size gO wS wr)) (fun sv _ => n - (intOf sv).toNat)
        case atStart => exact ⟨0, Xs, by omega, rfl, Lib.hid (by rw [inR_0]; exact HSt.out.more (by omega)), HX, HBu⟩
        case round =>
          clear HX HBu HSt o0 HSi
          obtain ⟨wi, rfl⟩ : ∃ wi : World, wi = wr := ⟨_, rfl⟩
          obtain ⟨s, Ys, hs, rfl, HSt, HX, HBu⟩ := hrel
          have hzi := HBu.out.size
          by_cases hlt2 : s < n
          · have t2 : decide ((s : Int) < (n : Int)) = true := decide_eq_true (by omega)
            have hb := perm_lt HOrd.out.1 hlt2
            have o1 := HOr.out wi HBu.out s hlt2
            have HIy := Lib.hid fun h => inR_yes (pX l) (pY l) (o := o) (i := a) (s := s) (f := outR (pX l) (pY l) o n t) h
            have HIn := Lib.hid fun h => inR_no (pX l) (pY l) (o := o) (i := a) (s := s) (f := outR (pX l) (pY l) o n t) h
            obtain ⟨b, hbb⟩ : ∃ b, b = o.getD s 0 := ⟨_, rfl⟩
            rw [← hbb] at o1 hb HIy HIn
            have ib : (b : Int) < (n : Int) := by omega
            have w1s : IntKind.i64.wrap ((s : Int) + 1) = (s : Int) + 1 := by rw [IntKind.wrap_i64]; omega
            have y0 := HX.out.cell (i := b) (by rw [HSt.out.1]; exact hb)
            have y1 := HX.out.cell (i := a) (by rw [HSt.out.1]; exact ha)
            rw [HSt.out.2.1 b hb] at y0
            rw [HSt.out.2.1 a ha] at y1
            have bd0 := HSt.out.at_ hb
            have bd1 := HSt.out.at_ ha
            obtain ⟨fb, hfb⟩ : ∃ z, z = inR (pX l) (pY l) o a s (outR (pX l) (pY l) o n t) b := ⟨_, rfl⟩
            obtain ⟨fa, hfa⟩ : ∃ z, z = inR (pX l) (pY l) o a s (outR (pX l) (pY l) o n t) a := ⟨_, rfl⟩
            rw [← hfb] at y0 bd0
            rw [← hfa] at y1 bd1
            rw [← hfb, ← hfa] at HIy HIn
            have w1f : IntKind.i64.wrap (fb + 1) = fb + 1 := by rw [IntKind.wrap_i64]; omega
            have p0 := HPt.out wi HBu.out (b * 3) (by omega)
            have p1 : wi.cell? ⟨bk, off + b * 3 + 1, none⟩ = some (.int .i64 (l.getD (b * 3 + 1) 0)) := HPt.out wi HBu.out (b * 3 + 1) (by omega)
            have p2 : wi.cell? ⟨bk, off + b * 3 + 2, none⟩ = some (.int .i64 (l.getD (b * 3 + 2) 0)) := HPt.out wi HBu.out (b * 3 + 2) (by omega)
            have q0 := HPt.out wi HBu.out (a * 3) (by omega)
            have q1 : wi.cell? ⟨bk, off + a * 3 + 1, none⟩ = some (.int .i64 (l.getD (a * 3 + 1) 0)) := HPt.out wi HBu.out (a * 3 + 1) (by omega)
            have q2 : wi.cell? ⟨bk, off + a * 3 + 2, none⟩ = some (.int .i64 (l.getD (a * 3 + 2) 0)) := HPt.out wi HBu.out (a * 3 + 2) (by omega)
            obtain ⟨bq, hbq⟩ : ∃ b', above (pX l) (pY l) b a = b' := ⟨_, rfl⟩
            have HP := Lib.hid fun W => refAbove_any (w := W) (x0 := l.getD (b * 3) 0) (y0 := l.getD (b * 3 + 1) 0) (z0 := l.getD (b * 3 + 2) 0) (x1 := l.getD (a * 3) 0) (y1 := l.getD (a * 3 + 1) 0) (z1 := l.getD (a * 3 + 2) 0)
            rw [← above_B, hbq] at HP
            have HBq := Lib.hid hbq
            have HYl := Lib.hid HSt.out.1
            generalize l.getD (b * 3) 0 = bx at *
            generalize l.getD (b * 3 + 1) 0 = by' at *
            generalize l.getD (b * 3 + 2) 0 = bz at *
            generalize l.getD (a * 3) 0 = ax at *
            generalize l.getD (a * 3 + 1) 0 = ay at *
            generalize l.getD (a * 3 + 2) 0 = az at *
            have hwi : bk < wi.heap.size := by omega
            have hgi := HX.out.lt
            have HKp : Hid (∀ W, RowKit.Below wi.heap.size wi W → (W.cell? ⟨bk, off + b * 3, none⟩ = some (.int .i64 bx) ∧ W.cell? ⟨bk, off + b * 3 + 1, none⟩ = some (.int .i64 by') ∧ W.cell? ⟨bk, off + b * 3 + 2, none⟩ = some (.int .i64 bz) ∧ W.cell? ⟨bk, off + a * 3, none⟩ = some (.int .i64 ax) ∧ W.cell? ⟨bk, off + a * 3 + 1, none⟩ = some (.int .i64 ay) ∧ W.cell? ⟨bk, off + a * 3 + 2, none⟩ = some (.int .i64 az) ∧ W.cell? ⟨gO, b, none⟩ = some (.int .i64 fb) ∧ W.cell? ⟨gO, a, none⟩ = some (.int .i64 fa)) ∧ IBlk .i64 3 W gO Ys ∧ BelowBut wS.heap.size gO wS W) := Lib.hid fun W hbt => ⟨⟨(hbt.cell (p := ⟨bk, off + b * 3, none⟩) (by show bk < wi.heap.size; assumption)).trans p0, (hbt.cell (p := ⟨bk, off + b * 3 + 1, none⟩) (by show bk < wi.heap.size; assumption)).trans p1, (hbt.cell (p := ⟨bk, off + b * 3 + 2, none⟩) (by show bk < wi.heap.size; assumption)).trans p2, (hbt.cell (p := ⟨bk, off + a * 3, none⟩) (by show bk < wi.heap.size; assumption)).trans q0, (hbt.cell (p := ⟨bk, off + a * 3 + 1, none⟩) (by show bk < wi.heap.size; assumption)).trans q1, (hbt.cell (p := ⟨bk, off + a * 3 + 2, none⟩) (by show bk < wi.heap.size; assumption)).trans q2, (hbt.cell (p := ⟨gO, b, none⟩) (by show gO < wi.heap.size; assumption)).trans y0, (hbt.cell (p := ⟨gO, a, none⟩) (by show gO < wi.heap.size; assumption)).trans y1⟩, (hbt.block gO hgi).trans HX.out, HBu.out.trans (.of_below (hbt.mono hzi))⟩
            clear hbq hbb hfb hfa
            have i0 : (0 : Int) ≤ (a : Int) := by omega
            cases bq with
            | false =>
              have HNx : Hid (inR (pX l) (pY l) o a (s + 1) (outR (pX l) (pY l) o n t) = inR (pX l) (pY l) o a s (outR (pX l) (pY l) o n t)) := Lib.hid (HIn.out fun h => by rw [HBq.out] at h; cases h.1)
              clear HIy HIn
              go_wp2_with fail
              have HPq := Lib.hid fun d os => Calls.regrown_of (HP.out (Sort.grow (redrawn wi d) os))
              have P0 := fun d os => cell_regrown p0 d os
              have P1 := fun d os => cell_regrown p1 d os
              have P2 := fun d os => cell_regrown p2 d os
              have Q0 := fun d os => cell_regrown q0 d os
              have Q1 := fun d os => cell_regrown q1 d os
              have Q2 := fun d os => cell_regrown q2 d os
              have HK9 := Lib.hid HKp.out
              clear p0 p1 p2 q0 q1 q2 y0 y1 bd0 bd1 w1f HP HKp o1
              refine wp_region_quiet_below (by kernel_rfl) (by kernel_rfl) ?_
              iterate 8 (quiet_step (fail))
              quiet_step ((go_at_call 15; exact HPq.out _ _))
              clear P0 P1 P2 Q0 Q1 Q2 HPq
              obtain ⟨fv, hfv⟩ : ∃ v, v = Value.bool false := ⟨_, rfl⟩
              rw [← hfv]
              have HFv := Lib.hid hfv
              clear hfv
              quiet_step (fail)
              iterate 10 (refine wpQuiet_step (fun K hK => ?_); go_simp; refine (if_neg (by rw [HFv.out]; intro h; cases h)).mpr ?_; refine hK _ ?_; clear hK K)
              rw [HFv.out]
              clear HFv fv
              refine wpQuiet_step (fun K hK => ?_)
              go_simp
              refine hK _ ?_
              clear hK K
              refine wpQuiet_nil ?_
              intro _ hw'
              obtain ⟨⟨dq, osq⟩, hw''⟩ := hw'
              subst hw''
              have HKp2 := HK9.out _ (below_regrown wi dq osq)
              generalize Sort.grow (redrawn wi dq) osq = wt at *
              have HXt := Lib.hid HKp2.2.1
              have HBt := Lib.hid HKp2.2.2
              clear HK9 HKp2 HX HBu
              go_wp2_with fail
              go_roundw
              case rel => exact ⟨s + 1, Ys, by omega, by go_num, Lib.hid (by rw [HNx.out]; exact HSt.out.more (by push_cast; omega)), HXt, HBt⟩
              case measure => simp [intOf]; omega
            | true =>
              by_cases hcm : fa < fb + 1
              · have t3 : decide (fa < fb + 1) = true := decide_eq_true hcm
                have HNx : Hid (inR (pX l) (pY l) o a (s + 1) (outR (pX l) (pY l) o n t) = upd (inR (pX l) (pY l) o a s (outR (pX l) (pY l) o n t)) a (fb + 1)) := Lib.hid (HIy.out ⟨HBq.out, hcm⟩)
                clear HIy HIn
                go_wp2_with fail
                go_region_held3 (fun W => W.cell? ⟨bk, off + b * 3, none⟩ = some (.int .i64 bx) ∧ W.cell? ⟨bk, off + b * 3 + 1, none⟩ = some (.int .i64 by') ∧ W.cell? ⟨bk, off + b * 3 + 2, none⟩ = some (.int .i64 bz) ∧ W.cell? ⟨bk, off + a * 3, none⟩ = some (.int .i64 ax) ∧ W.cell? ⟨bk, off + a * 3 + 1, none⟩ = some (.int .i64 ay) ∧ W.cell? ⟨bk, off + a * 3 + 2, none⟩ = some (.int .i64 az) ∧ W.cell? ⟨gO, b, none⟩ = some (.int .i64 fb) ∧ W.cell? ⟨gO, a, none⟩ = some (.int .i64 fa))
                  (first
                    | exact ⟨p0, p1, p2, q0, q1, q2, y0, y1⟩
                    | exact (HKp.out _ ((below_drewN (RowKit.Below.refl _ _) 1).trans hbt)).1)
                  (first
                    | (go_at_call 15; refine (HP.out _).mono ?_; rintro e wt ⟨rfl, hbt⟩))
                have HKp2 := HKp.out _ ((below_drewN (RowKit.Below.refl _ _) 1).trans hbt)
                have HU := Lib.hid (And.intro HKp2.1.2.2.2.2.2.2.1 HKp2.1.2.2.2.2.2.2.2)
                have HXt := Lib.hid HKp2.2.1
                have HBt := Lib.hid HKp2.2.2
                clear hbt HKp HKp2 HX HBu p0 p1 p2 q0 q1 q2 y0 y1
                have u0 : wt.cell? ⟨gO, b, none⟩ = some (.int .i64 fb) := HU.out.1
                have u1 : wt.cell? ⟨gO, a, none⟩ = some (.int .i64 fa) := HU.out.2
                have u2 := HXt.out.frozen a
                go_wp2_with fail
                go_roundw
                case rel => exact ⟨s + 1, Ys.set a (fb + 1), by omega, by go_num, Lib.hid (by rw [HNx.out]; exact HSt.out.set (by push_cast; omega) (by push_cast; omega)), Lib.hid (HXt.out.set a (fb + 1)), Lib.hid (HBt.out.setCell _ _)⟩
                case measure => simp [intOf]; omega
              · have t3 : decide (fa < fb + 1) = false := decide_eq_false hcm
                have HNx : Hid (inR (pX l) (pY l) o a (s + 1) (outR (pX l) (pY l) o n t) = inR (pX l) (pY l) o a s (outR (pX l) (pY l) o n t)) := Lib.hid (HIn.out fun h => hcm h.2)
                clear HIy HIn
                go_wp2_with fail
                go_region_held3 (fun W => W.cell? ⟨bk, off + b * 3, none⟩ = some (.int .i64 bx) ∧ W.cell? ⟨bk, off + b * 3 + 1, none⟩ = some (.int .i64 by') ∧ W.cell? ⟨bk, off + b * 3 + 2, none⟩ = some (.int .i64 bz) ∧ W.cell? ⟨bk, off + a * 3, none⟩ = some (.int .i64 ax) ∧ W.cell? ⟨bk, off + a * 3 + 1, none⟩ = some (.int .i64 ay) ∧ W.cell? ⟨bk, off + a * 3 + 2, none⟩ = some (.int .i64 az) ∧ W.cell? ⟨gO, b, none⟩ = some (.int .i64 fb) ∧ W.cell? ⟨gO, a, none⟩ = some (.int .i64 fa))
                  (first
                    | exact ⟨p0, p1, p2, q0, q1, q2, y0, y1⟩
                    | exact (HKp.out _ ((below_drewN (RowKit.Below.refl _ _) 1).trans hbt)).1)
                  (first
                    | (go_at_call 15; refine (HP.out _).mono ?_; rintro e wt ⟨rfl, hbt⟩))
                have HKp2 := HKp.out _ ((below_drewN (RowKit.Below.refl _ _) 1).trans hbt)
                have HU := Lib.hid (And.intro HKp2.1.2.2.2.2.2.2.1 HKp2.1.2.2.2.2.2.2.2)
                have HXt := Lib.hid HKp2.2.1
                have HBt := Lib.hid HKp2.2.2
                clear hbt HKp HKp2 HX HBu p0 p1 p2 q0 q1 q2 y0 y1
                go_wp2_with fail
                go_roundw
                case rel => exact ⟨s + 1, Ys, by omega, by go_num, Lib.hid (by rw [HNx.out]; exact HSt.out.more (by push_cast; omega)), HXt, HBt⟩
                case measure => simp [intOf]; omega
          · obtain rfl : s = n := by omega
            have t2 : decide ((s : Int) < (s : Int)) = false := decide_eq_false (by omega)
            go_wp2_with fail
            go_roundw
            case rel => exact ⟨t + 1, Ys, by omega, by go_num, Lib.hid (by rw [HSo.out]; exact HSt.out.more (by push_cast; omega)), HX, HBu⟩
            case measure => simp [intOf]; omega
      · obtain rfl : t = n := by omega
        have t1 : decide ((t : Int) < (t : Int)) = false := decide_eq_false (by omega)
        have HLR : Hid (LayersR t l Xs 0) := Lib.hid ⟨HCc.out, fun h => absurd rfl h, fun _ => ⟨HSt.out.1, (outR_layer _ _ HOrd.out).congr HSt.out.2.1⟩⟩
        go_wp2_with fail
        go_ret2
        refine ⟨_, Xs, rfl, HLR.out, ?_, HBw.out.trans (HBu.out.below (by omega) (by omega))⟩
        have := IBlk.isInts HX.out (by rw [HSt.out.1]; omega) (fun z hz => by have := HSt.out.2.2 z hz; exact WalkArith.wf_i64 (by omega))
        rw [HSt.out.1] at this
        exact this
end Go.Proofs.YtnkflafkalmnmaaDoor
