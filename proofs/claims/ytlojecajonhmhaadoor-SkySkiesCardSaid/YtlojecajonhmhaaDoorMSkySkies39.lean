/-
  Contract of sky.Sky: what nothing is above. Conditions: the points can be read as data.
-/
import Derived.Test.YtlojecajonhmhaaDoorMSkySkies33
import Derived.Test.YtlojecajonhmhaaDoorMSkySkies37
import Derived.Test.YtlojecajonhmhaaDoorMSkySkies38
import Derived.RangeFuncCalls
set_option linter.unusedVariables false
set_option linter.unusedSimpArgs false
namespace Go.Proofs.YtlojecajonhmhaaDoor
open Go Go.RowKit Go.Dam Go.Dam.Sky Go.Shelf
set_option linter.unusedVariables false
attribute [local go_sem] Oper.semAt_some
theorem own_ne_blkS {w : World} {base size n g : Nat} {te e : TypeId} {v : Value} {xs : List Value} {cs : Array Value} (h : w.ownsRow base e size v n xs) (hb : Blk w g te cs) (hne : te ≠ e) : some g ≠ v.ownBlock := by
  intro ee
  rcases h.2 with ⟨rfl, _⟩ | ⟨g2, cap, cur, rfl, _, h2, _⟩
  · cases ee
  · have e2 : g = g2 := by simpa [Value.ownBlock] using ee
    subst e2
    rw [show w.heap[g]? = _ from hb] at h2
    cases h2
    exact hne rfl
theorem cell_new_at (w : World) (x : Value) (t : TypeId) {g : Nat} (hg : g = w.heap.size) : ∀ j u, [x][j]? = some u → (w.alloc (.cells #[x] t)).cell? ((⟨g, 0, none⟩ : Addr).add j) = some u := by subst hg; exact cell_one_new w x t
theorem own_farS {w : World} {base size n : Nat} {te e : TypeId} {v : Value} {xs : List Value} {cs : Array Value} {p : Addr} (h : w.ownsRow base e size v n xs) (hp : Blk w p.block te cs) (hne : te ≠ e) (x : Value) : (w.setCell p x).ownsRow base e size v n xs := by
  have hb := own_ne_blkS h hp hne
  rcases h.2 with ⟨rfl, rfl⟩ | ⟨g, cap, cur, rfl, h1, h2, rest⟩
  · exact ⟨h.1, .inl ⟨rfl, rfl⟩⟩
  · exact ⟨h.1, .inr ⟨g, cap, cur, rfl, h1, (Below.heap_setCell w p x g (fun e => hb (by rw [← e]; rfl))).trans h2, rest⟩⟩
theorem sky_push {W w4 : World} {g zS q c2 : Nat} {A2 : Option Addr} {v' : Value} {xs ys : List Value} {o1 o2 : Obj} {tx ty tz px py pz : Value}
    (Hv4 : Boxed w4 g 33 (.slice A2 q c2)) (Ht4 : Blk w4 (g + 1) 46 #[tx, ty, tz]) (Hg4 : ((W.alloc o1).alloc o2).grownBy w4 (Value.slice A2 q c2).ownBlock)
    (Hr : W.ownsRow (zS + 1) 3 1 (.slice A2 q c2) q xs) (Ho4 : w4.ownsRow (zS + 1) 3 1 v' (q + 1) ys) (hg : g + 1 < zS) (hz : zS + 1 ≤ W.heap.size) :
    KeepsOthers W ((((w4.setCell ⟨g, 0, none⟩ v').setCell ⟨g + 1, 0, none⟩ px).setCell ⟨g + 1, 1, none⟩ py).setCell ⟨g + 1, 2, none⟩ pz) ∧
    BelowOff (zS + 1) (fun b => b = g ∨ b = g + 1) W ((((w4.setCell ⟨g, 0, none⟩ v').setCell ⟨g + 1, 0, none⟩ px).setCell ⟨g + 1, 1, none⟩ py).setCell ⟨g + 1, 2, none⟩ pz) ∧
    Boxed ((((w4.setCell ⟨g, 0, none⟩ v').setCell ⟨g + 1, 0, none⟩ px).setCell ⟨g + 1, 1, none⟩ py).setCell ⟨g + 1, 2, none⟩ pz) g 33 v' ∧
    ((((w4.setCell ⟨g, 0, none⟩ v').setCell ⟨g + 1, 0, none⟩ px).setCell ⟨g + 1, 1, none⟩ py).setCell ⟨g + 1, 2, none⟩ pz).ownsRow (zS + 1) 3 1 v' (q + 1) ys ∧
    Blk ((((w4.setCell ⟨g, 0, none⟩ v').setCell ⟨g + 1, 0, none⟩ px).setCell ⟨g + 1, 1, none⟩ py).setCell ⟨g + 1, 2, none⟩ pz) (g + 1) 46 #[px, py, pz] := by
  have b1 : Blk (w4.setCell ⟨g, 0, none⟩ v') g 33 #[v'] := Hv4.set v'
  have t1 : Blk (w4.setCell ⟨g, 0, none⟩ v') (g + 1) 46 #[tx, ty, tz] := Ht4.far (p := ⟨g, 0, none⟩) (by show g + 1 ≠ g; omega) _
  have r1 : (w4.setCell ⟨g, 0, none⟩ v').ownsRow (zS + 1) 3 1 v' (q + 1) ys := own_farS (p := ⟨g, 0, none⟩) Ho4 (show Blk w4 g 33 #[.slice A2 q c2] from Hv4) (by decide) _
  have b2 := b1.far (p := ⟨g + 1, 0, none⟩) (by show g ≠ g + 1; omega) px
  have t2 := t1.set_ 0 px
  have r2 := own_farS (p := ⟨g + 1, 0, none⟩) r1 t1 (by decide) px
  have b3 := b2.far (p := ⟨g + 1, 1, none⟩) (by show g ≠ g + 1; omega) py
  have t3 := t2.set_ 1 py
  have r3 := own_farS (p := ⟨g + 1, 1, none⟩) r2 t2 (by decide) py
  have b4 := b3.far (p := ⟨g + 1, 2, none⟩) (by show g ≠ g + 1; omega) pz
  have t4 := t3.set_ 2 pz
  have r4 := own_farS (p := ⟨g + 1, 2, none⟩) r3 t3 (by decide) pz
  refine ⟨?_, ?_, b4, r4, t4⟩
  · refine ((((((KeepsOthers.alloc W o1).trans (KeepsOthers.alloc _ o2)).trans (KeepsOthers.of_grownBy Hg4 fun j o ej hj => ?_)).trans (KeepsOthers.setCell _ _ _)).trans (KeepsOthers.setCell _ _ _)).trans (KeepsOthers.setCell _ _ _)).trans (KeepsOthers.setCell _ _ _)
    rcases ((Hr.alloc o1).alloc o2).2 with ⟨h1, _⟩ | ⟨k, cap, cur, h1, _, hgb, _⟩
    · rw [h1] at ej; simp [Value.ownBlock] at ej
    · rw [h1] at ej
      obtain rfl : k = j := by simpa [Value.ownBlock] using ej
      rw [hgb] at hj; cases hj; rfl
  · exact ((((BelowOff.of_below (below_push (((Below.refl (zS + 1) W).alloc hz o1).alloc (by simp; omega) o2) ((Hr.alloc o1).alloc o2) (Nat.le_refl _) (by simp; omega) Hg4)).setCell (.inl rfl) _ _).setCell (.inr rfl) _ _).setCell (.inr rfl) _ _).setCell (.inr rfl) _ _
/-- What the sweep keeps, round by round. -/
def SkyLoop (l : List Int) (n : Nat) (o : List Nat) (g zS : Nat) (W0 : World) (k : Nat) (W : World) : Prop :=
  (∃ ov outs tx ty tz, Boxed W g 33 ov ∧ W.ownsRow (zS + 1) 3 1 ov outs.length ((natL outs).map (Value.int .i64)) ∧ Blk W (g + 1) 46 #[.int .i64 tx, .int .i64 ty, .int .i64 tz] ∧ SkySt l n o (n - k) outs tx ty) ∧ BelowOff (zS + 1) (fun b => b = g ∨ b = g + 1) W0 W
theorem SkyLoop.own_ {l : List Int} {n : Nat} {o : List Nat} {g zS : Nat} {W0 : World} {B : Nat} (h1 : zS + 1 ≤ W0.heap.size) (h2 : zS + 1 ≤ B) : OwnFrom B (SkyLoop l n o g zS W0) := by
  refine OwnFrom.and (Own.from (fun k X Y row ⟨ov, outs, tx, ty, tz, hv, hr, ht, hst⟩ hg hrow => ?_) _) (BelowOff.own h1 h2)
  obtain ⟨v', q1, q2, q3⟩ := holdsRow_own (β := List Nat) (zS + 1) g 33 3 1 (fun s => s.length) (fun s => (natL s).map (Value.int .i64)) (fun s v => True) outs X Y row ⟨ov, hv, hr, trivial⟩ hg hrow
  exact ⟨v', outs, tx, ty, tz, q1, q2, ht.grown hg (fun e' => by obtain ⟨ob, ho, hc⟩ := hrow _ e'.symm; rw [show X.heap[g + 1]? = _ from ht] at ho; cases ho; cases hc), hst⟩
set_option maxRecDepth 100000 in
set_option maxHeartbeats 8000000 in
theorem sky_any (v : Value) (n : Nat) (l : List Int) (w : World) (B : Nat) (hB : B ≤ w.heap.size) (h : IsFlat 3 w B v n l) :
    Calls Tryd.prog 11 #[v] w fun e w' => ∃ u r, e = .returned (.tuple #[u, .int .i64 (ptCode n l)]) ∧ SkyR l n r (ptCode n l) ∧ IsInts .i64 w' w'.heap.size u r ∧ RowKit.Below w.heap.size w w' := by
  have HC := Lib.hid fun W (hb : RowKit.Below w.heap.size w W) => gridCheck_any v n l W B (Nat.le_trans hB hb.size) (h.below (hb.mono hB))
  obtain ⟨cc, hcc⟩ : ∃ c, c = ptCode n l := ⟨_, rfl⟩
  rw [← hcc] at HC ⊢
  have HCc := Lib.hid hcc
  by_cases c0 : cc = 0
  rotate_left
  · obtain ⟨A, c, rfl, hc, hm, hn, hl, hr, hw⟩ := h
    have t0 : (cc != 0) = true := bne_iff_ne.2 c0
    have HR : Hid (SkyR l n [] cc) := Lib.hid ⟨hcc, fun _ => rfl, fun h => absurd h c0⟩
    have HB0 := Lib.hid ((RowKit.Below.refl w.heap.size w).alloc (Nat.le_refl _) (.cells #[.slice A n c] 32))
    clear hr hl hw hcc c0
    go_enter Tryd.func11, Tryd.ntmps11
    go_wp2_with (go_at_call 21; refine (HC.out _ HB0.out).mono ?_; rintro e w1 ⟨rfl, hb1⟩)
    go_ret2
    exact ⟨_, [], rfl, HR.out, isInts_nil _ _ _, HB0.out.trans (hb1.mono (by simp))⟩
  subst c0
  obtain ⟨hn1, hf⟩ := ptCode_ok hcc.symm
  have HSo := Lib.hid fun W (hb : RowKit.Below w.heap.size w W) => skySortedT_any v n l W B (Nat.le_trans hB hb.size) (h.below (hb.mono hB)) hn1
  obtain ⟨A, c, rfl, hc, hm, hn, hl, hr, hw⟩ := h
  have HR := Lib.hid hr
  clear hr hw hcc hf
  have HB0 := Lib.hid ((RowKit.Below.refl w.heap.size w).alloc (Nat.le_refl _) (.cells #[.slice A n c] 32))
  have HJ0 := Lib.hid (Blk.new w 32 #[.slice A n c])
  refine (callsIn_wide (n := 6)).1 ?_
  refine callsIn_of_wp_marks Tryd.func11 rfl trivial ?_ rfl
  simp only [Tryd.ntmps11, List.size_toArray, List.length_cons, List.length_nil, Nat.reduceAdd, Nat.reduceSub, Array.replicate_succ, Array.replicate_zero, List.push_toArray, List.append_toArray, List.nil_append, List.cons_append]
  gi_wp2_with (first
    | (refine ⟨trivial, ?_⟩; gi_at_call 21; refine (callsIn_wide.2 (HC.out _ HB0.out)).mono ?_; rintro e w1 ⟨rfl, hb1⟩; have HB1 := Lib.hid hb1; have k0 : ∀ o o', ((w1.alloc o).alloc o').cell? ⟨w.heap.size, 0, none⟩ = some (.slice A n c) := (fun o o' => (((((HJ0.out.below hb1 (by simp)).alloc o).alloc o').cell 0).trans rfl)); have HB2 := Lib.hid ((HB0.out.trans (hb1.mono (by simp)))); have HBa := Lib.hid (fun o o' => ((HB2.out.alloc HB2.out.size o).alloc (by have := HB2.out.size; simp; omega) o')); clear hb1)
    | (refine ⟨trivial, ?_⟩; gi_at_call 23; refine (callsIn_wide.2 (HSo.out _ (HBa.out _ _))).mono ?_; rintro e wS ⟨u, o, rfl, hord, hownO, hbS⟩; have HOrd := Lib.hid hord; have HOw := Lib.hid hownO; have HBS := Lib.hid hbS; obtain ⟨Ao, co, rfl⟩ := own_shape hownO; clear hord hownO hbS)
    | (refine ⟨trivial, ?_⟩; gi_at_call 22; refine (seqBackwardO Fence.wide _ trivial rfl _ _ _ _).mono ?_; rintro e w3 ⟨rfl, rfl⟩))
  have hz1 := HB2.out.size
  have hzS := HBS.out.size
  simp only [World.size_alloc] at hzS
  have HJp : Hid (Blk (wS.alloc (.cells #[.slice Ao n co] 33)) w.heap.size 32 #[.slice A n c]) := Lib.hid (by
    have h1 := (HJ0.out.below HB1.out (by simp)).alloc (.cells #[.slice none 0 0] 33)
    exact (((h1.alloc _).below HBS.out (by simp; omega))).alloc _)
  have hw1 : w.heap.size < w1.heap.size := by have := (HJ0.out.below HB1.out (by simp)).lt; exact this
  have HW0 : Hid (RowKit.Below w.heap.size w (wS.alloc (.cells #[.slice Ao n co] 33))) := Lib.hid (((HBa.out _ _).trans (HBS.out.mono (by simp; omega))).alloc (by omega) _)
  have bx0 : Boxed (wS.alloc (.cells #[.slice Ao n co] 33)) w1.heap.size 33 (.slice none 0 0) :=
    Blk.alloc (Blk.below ((Blk.new w1 33 #[.slice none 0 0]).alloc _) HBS.out (by simp; omega)) _
  have bt0 : Blk (wS.alloc (.cells #[.slice Ao n co] 33)) (w1.heap.size + 1) 46 #[.int .i64 0, .int .i64 0, .int .i64 0] :=
    Blk.alloc (Blk.below (Blk.new_at (w1.alloc (.cells #[.slice none 0 0] 33)) 46 #[.int .i64 0, .int .i64 0, .int .i64 0] (w1.heap.size + 1) (by simp)) HBS.out (by simp)) _
  have hs0 : (wS.alloc (.cells #[.slice Ao n co] 33)).cell? ⟨wS.heap.size, 0, none⟩ = some (.slice Ao n co) := ((Blk.new wS 33 #[.slice Ao n co]).cell 0).trans rfl
  have hol : o.length = n := HOrd.out.len
  obtain ⟨b, hb⟩ : ∃ b, 0 < n → Ao = some ⟨b, 0, none⟩ ∧ w1.heap.size + 1 + 1 ≤ b ∧ b < wS.heap.size := by
    by_cases h0 : 0 < n
    · obtain ⟨gg, cap, e1, e2, e3⟩ := HOw.out.form h0
      injection e1 with e1 _ _
      exact ⟨gg, fun _ => ⟨e1, by simpa using e2, e3⟩⟩
    · exact ⟨0, fun h => absurd h h0⟩
  have hcap := own_cap HOw.out
  obtain ⟨vs, hvs⟩ : ∃ vs : List Value, vs = (natL o).map (Value.int .i64) := ⟨_, rfl⟩
  have hvat : ∀ j, j < n → vs.getD j undef = .int .i64 (o.getD j 0 : Nat) := fun j hj => by
    rw [hvs, List.getD_eq_getElem?_getD, List.getElem?_map, List.getElem?_eq_getElem (by rw [natL_len]; omega)]
    show Value.int .i64 _ = _
    rw [← natL_at, List.getD_eq_getElem?_getD, List.getElem?_eq_getElem (by rw [natL_len]; omega)]; rfl
  have hcs0 : ∀ j, j < n → (wS.alloc (.cells #[.slice Ao n co] 33)).cell? ⟨b, j, none⟩ = some (vs.getD j undef) := fun j hj => by
    obtain ⟨rfl, _, hbl⟩ := hb (by omega)
    rw [World.cell?_alloc_lt _ _ ⟨b, j, none⟩ hbl, HOw.out.cellAt j (by omega), hvs, List.getD_eq_getElem?_getD, List.getElem?_eq_getElem (by rw [List.length_map, natL_len]; omega)]; rfl
  have hpl : ∀ j, j < n → o.getD j 0 < n := fun j hj => perm_lt HOrd.out.1.1 hj
  have hzW : (wS.alloc (.cells #[.slice Ao n co] 33)).heap.size = wS.heap.size + 1 := by simp
  clear hvs HOw HBS HB1 HBa k0 HC HSo
  generalize wS.alloc (.cells #[.slice Ao n co] 33) = W0 at *
  obtain ⟨zS, hzs⟩ : ∃ z, z = wS.heap.size := ⟨_, rfl⟩
  obtain ⟨g, hg⟩ : ∃ g, g = w1.heap.size := ⟨_, rfl⟩
  rw [← hzs] at hs0 hzS hzW hb ⊢
  rw [← hg] at hzS bx0 bt0 hb hw1 hz1 ⊢
  clear hzs hg
  refine wpIn_rangeFunc_stepsO (n := 6) rfl (by omega) (gf := 43) (lb := #[.pointer (some ⟨zS, 0, none⟩)]) rfl trivial (enters_of Tryd.func43 (by kernel_rfl) rfl)
    (seqBackI_stepsO Fence.wide _ trivial rfl (by omega) zS b (zS + 1) (fun b => b = g ∨ b = g + 1) n co Ao vs (by omega) W0 (by omega) (by omega) (by omega) hcap hs0 (fun h => ⟨(hb h).1, by have := (hb h).2; omega, by have := (hb h).2; omega⟩) hcs0)
    (by omega) (Below.refl _ _) (fun _ => rfl)
    (fun k W => SkyLoop l n o g zS W0 k W)
    ?hI ?h0
    (fun a' k W => (a' = { tmps := #[.slice A n c, .pointer (some ⟨w.heap.size, 0, none⟩), .slice none 0 0, .int .i64 0, .int .i64 0, .pointer (some ⟨g, 0, none⟩), .pointer (some ⟨g + 1, 0, none⟩), undef, .int .i64 (o.getD (n - 1 - k) 0 : Nat), undef, .slice A n c, .int .i64 0, .int .i64 0, .bool false, undef, .slice A n c, .slice Ao n co, .func (.func 43) #[] #[.pointer (some ⟨zS, 0, none⟩)], .int .i64 ((n - 1 - k : Nat) : Int), .int .i64 (o.getD (n - 1 - k) 0 : Nat), undef, undef, undef, undef, undef, undef, undef, undef, undef, undef, undef, undef, undef, undef, undef, undef, undef, undef, undef, undef, undef, undef, undef, undef, undef, undef, undef, undef, undef, undef, undef, undef, undef, undef, undef, undef], defers := [] }) ∧ SkyLoop l n o g zS W0 k W)
    ?hI' ?assign ?body ?done
  case h0 => exact ⟨⟨_, [], _, _, _, bx0, World.ownsRow_nil _ _ _ _, bt0, SkySt.start HOrd.out _ _⟩, BelowOff.refl _ _ _⟩
  case hI => exact SkyLoop.own_ (by omega) (by omega)
  case hI' => exact fun a' => OwnFrom.and (fun k X Y row h hg hrow => h) (SkyLoop.own_ (by omega) (by omega))
  case assign =>
    rintro l0 k W K hk hI hK
    unfold backEnc
    rw [hvat _ (by omega)]
    gi_wp2
    exact hK _ _ (KeepsFrom.refl _ _) (BelowOff.refl _ _ _) ⟨rfl, hI⟩
  case body =>
    rintro l0 k a' W hk ⟨rfl, ⟨ov, outs, tx, ty, tz, hv, hr, ht, hst⟩, hbb⟩
    obtain ⟨i, hi⟩ : ∃ i, i = o.getD (n - 1 - k) 0 := ⟨_, rfl⟩
    have hin : i < n := by rw [hi]; exact hpl _ (by omega)
    rw [← hi]
    have hzB := hbb.size
    have hbw : ∀ q : Nat, q < w.heap.size → ¬ (q = g ∨ q = g + 1) := fun q hq => by omega
    have q0 : W.cell? ⟨w.heap.size, 0, none⟩ = some (.slice A n c) := (hbb.cell (p := ⟨w.heap.size, 0, none⟩) (by show w.heap.size < _; omega) (by show ¬ (w.heap.size = _ ∨ w.heap.size = _); omega)).trans ((HJp.out.cell 0).trans rfl)
    obtain ⟨bk, off, rfl, hbk, hcs⟩ := flat_cells HR.out hl (by omega) (by omega)
    have cell : ∀ j, j < n * 3 → W.cell? ⟨bk, off + j, none⟩ = some (.int .i64 (l.getD j 0)) := fun j hj => (hbb.cell (p := ⟨bk, off + j, none⟩) (by show bk < _; omega) (hbw bk (by omega))).trans ((HW0.out.cell (p := ⟨bk, off + j, none⟩) (by show bk < _; omega)).trans (hcs j hj))
    have y0 := cell (i * 3) (by omega)
    have y1 := cell (i * 3 + 1) (by omega)
    have y2 := cell (i * 3 + 2) (by omega)
    rw [← Nat.add_assoc] at y1 y2
    have HSt : Hid (∃ m, m = n - 1 - k ∧ m < n ∧ SkySt l n o (m + 1) outs tx ty ∧ i = o.getD m 0 ∧ n - (k + 1) = m ∧ (k = 0 ↔ m + 1 = n)) := Lib.hid ⟨n - 1 - k, rfl, by omega, by rw [show n - 1 - k + 1 = n - k by omega]; exact hst, hi, by omega, by omega⟩
    have hXY : Hid (pX l i = l.getD (i * 3) 0 ∧ pY l i = l.getD (i * 3 + 1) 0) := Lib.hid ⟨rfl, rfl⟩
    have hlo : outs.length ≤ k := by have := hst.short HOrd.out; omega
    have hlp : 0 < k → 0 < outs.length := fun h => hst.empty HOrd.out (by omega)
    obtain ⟨px, hpx⟩ : ∃ p, p = l.getD (i * 3) 0 := ⟨_, rfl⟩
    obtain ⟨py, hpy⟩ : ∃ p, p = l.getD (i * 3 + 1) 0 := ⟨_, rfl⟩
    obtain ⟨pz, hpz⟩ : ∃ p, p = l.getD (i * 3 + 2) 0 := ⟨_, rfl⟩
    rw [← hpx, ← hpy] at hXY
    rw [← hpx] at y0
    rw [← hpy] at y1
    rw [← hpz] at y2
    have HNo : Hid (0 < k → py ≤ ty → ¬ (px = tx ∧ py = ty) → SkySt l n o (n - (k + 1)) outs tx ty) := Lib.hid fun h1 h2 h3 => by
      obtain ⟨m, _, hm2, hm3, hm4, hm5, hm6⟩ := HSt.out
      rw [hm5]
      rw [← hXY.out.1, ← hXY.out.2, hm4] at h3
      rw [← hXY.out.2, hm4] at h2
      exact hm3.no HOrd.out (by omega) (Int.not_lt.2 h2) h3
    have HYes : Hid ((k = 0 ∨ ty < py ∨ (px = tx ∧ py = ty)) → SkySt l n o (n - (k + 1)) (outs ++ [i]) px py) := Lib.hid fun h1 => by
      obtain ⟨m, _, hm2, hm3, hm4, hm5, hm6⟩ := HSt.out
      rw [hm5, ← hXY.out.1, ← hXY.out.2, hm4]
      rw [← hXY.out.1, ← hXY.out.2, hm4] at h1
      refine hm3.yes HOrd.out (by omega) ?_
      rcases h1 with h1 | h1 | h1
      · exact .inl (by omega)
      · exact .inr (.inl h1)
      · exact .inr (.inr h1)
    have hsn : ((natL (outs ++ [i])).map (Value.int .i64)) = ((natL outs).map (Value.int .i64)) ++ [.int .i64 (i : Int)] := by unfold natL; simp
    have HSn := Lib.hid hsn
    clear hsn HSt hXY
    clear hpx hpy hpz hi hst cell hcs hcs0 hvat hpl hbw HJ0 HB0
    obtain ⟨A2, c2, rfl⟩ := own_shape hr
    obtain ⟨q, hq⟩ : ∃ q, q = outs.length := ⟨_, rfl⟩
    rw [← hq] at hr hv hlo hlp
    have x0 := fun ob => (hv.alloc ob).cell
    have x1 := fun ob => ((ht.alloc ob).cell 0).trans rfl
    have x2 := fun ob => ((ht.alloc ob).cell 1).trans rfl
    have x3 := fun ob => ((ht.alloc ob).cell 2).trans rfl
    have hgl := ht.lt
    have Hr := Lib.hid hr
    have Hv := Lib.hid hv
    have Ht := Lib.hid ht
    have Hbb := Lib.hid hbb
    clear hr hv ht hbb
    have Hq := Lib.hid hq
    have hcase : (Hid (k = 0) ∧ q = 0) ∨ (0 < k ∧ ((q : Int) == 0) = false ∧ decide (ty < py) = true) ∨ (0 < k ∧ ((q : Int) == 0) = false ∧ decide (ty < py) = false ∧ (px == tx) = true ∧ (py == ty) = true) ∨ (0 < k ∧ ((q : Int) == 0) = false ∧ decide (ty < py) = false ∧ (px == tx) = true ∧ (py == ty) = false) ∨ (0 < k ∧ ((q : Int) == 0) = false ∧ decide (ty < py) = false ∧ (px == tx) = false) := by
      by_cases h0 : k = 0
      · exact .inl ⟨Lib.hid h0, by omega⟩
      · have e0 : ((q : Int) == 0) = false := by rw [beq_eq_false_iff_ne]; have := hlp (by omega); omega
        by_cases h1 : ty < py
        · exact .inr (.inl ⟨by omega, e0, decide_eq_true h1⟩)
        · by_cases h2 : px = tx
          · by_cases h3 : py = ty
            · exact .inr (.inr (.inl ⟨by omega, e0, decide_eq_false h1, beq_iff_eq.2 h2, beq_iff_eq.2 h3⟩))
            · exact .inr (.inr (.inr (.inl ⟨by omega, e0, decide_eq_false h1, beq_iff_eq.2 h2, beq_eq_false_iff_ne.2 h3⟩)))
          · exact .inr (.inr (.inr (.inr ⟨by omega, e0, decide_eq_false h1, beq_eq_false_iff_ne.2 h2⟩)))
    clear hq hlp
    rcases hcase with ⟨hk0, rfl⟩ | ⟨hk0, e0, e1⟩ | ⟨hk0, e0, e1, e2, e3⟩ | ⟨hk0, e0, e1, e2, e3⟩ | ⟨hk0, e0, e1, e2⟩
    all_goals obtain ⟨i0, hii, hz0', hz1', hz2'⟩ := El.info (P := Tryd.prog) el_int
    · gi_wp2_with (gi_at_builtin; refine wpListIn_append_own _ rfl _ _ 33 rfl (zS + 1) 3 i0 (.int .i64 0) 1 8 Tryd.underlying33 hii hz0' hz1' hz2' rfl (by decide) _ _ _ rfl ((Hr.out.alloc _).alloc _) ⟨W.heap.size + 1, 0, none⟩ 1 1 [.int .i64 i] rfl rfl (cell_new_at _ _ _ (by simp)) (by simp [Value.oneCell']) (by unfold maxLen; omega) (by omega) (by simp; omega) ?_; intro v' w4 hown' hgrow hnil; obtain ⟨g', cap', rfl⟩ := ownsRow_succ hown'; have hv4 : Boxed w4 g 33 (.slice A2 0 c2) := ((Hv.out.alloc _).alloc _).kept hgrow (Boxed.not_row Hv.out (by decide) Hr.out); have ht4 : Blk w4 (g + 1) 46 #[.int .i64 tx, .int .i64 ty, .int .i64 tz] := Blk.grown ((Ht.out.alloc _).alloc _) hgrow (own_ne_blkS Hr.out Ht.out (by decide)); have hp4 : Blk w4 W.heap.size 46 #[.int .i64 px, .int .i64 py, .int .i64 pz] := Blk.grown ((Blk.new W 46 #[.int .i64 px, .int .i64 py, .int .i64 pz]).alloc _) hgrow (fun e => by have := (Hr.out.lt _ e.symm).2; omega); have hc4 := hv4.cell; have hf4 := hv4.frozen; have Hv4 := Lib.hid hv4; have Ht4 := Lib.hid ht4; have Hp4 := Lib.hid hp4; have Hg4 := Lib.hid hgrow; have Ho4 := Lib.hid hown'; have hp5 := hp4.far (p := ⟨g, 0, none⟩) (by show W.heap.size ≠ g; omega) (.slice (some ⟨g', 0, none⟩) (0 + 1) cap'); have r0 := (hp5.cell 0).trans rfl; have r1 := (hp5.cell 1).trans rfl; have r2 := (hp5.cell 2).trans rfl; have ht5 := ht4.far (p := ⟨g, 0, none⟩) (by show g + 1 ≠ g; omega) (.slice (some ⟨g', 0, none⟩) (0 + 1) cap'); have f0 := ht5.frozen 0; have f1 := ht5.frozen 1; have f2 := ht5.frozen 2; have s0 := (ht5.cell 0).trans rfl; have s1 := (ht5.cell 1).trans rfl; have s2 := (ht5.cell 2).trans rfl; clear hv4 ht4 hp4 hgrow hown' hp5 ht5)
      obtain ⟨z1, z2, z3, z4, z5⟩ := sky_push Hv4.out Ht4.out Hg4.out Hr.out Ho4.out (by omega) (by omega) (px := .int .i64 px) (py := .int .i64 py) (pz := .int .i64 pz)
      exact ⟨z1.from _, z2, ⟨_, outs ++ [i], px, py, pz, z3, by rw [List.length_append, ← Hq.out, HSn.out]; exact z4, z5, HYes.out (.inl hk0.out)⟩, Hbb.out.trans z2⟩
    · gi_wp2_with (gi_at_builtin; refine wpListIn_append_own _ rfl _ _ 33 rfl (zS + 1) 3 i0 (.int .i64 0) 1 8 Tryd.underlying33 hii hz0' hz1' hz2' rfl (by decide) _ _ _ rfl ((Hr.out.alloc _).alloc _) ⟨W.heap.size + 1, 0, none⟩ 1 1 [.int .i64 i] rfl rfl (cell_new_at _ _ _ (by simp)) (by simp [Value.oneCell']) (by unfold maxLen; omega) (by omega) (by simp; omega) ?_; intro v' w4 hown' hgrow hnil; obtain ⟨g', cap', rfl⟩ := ownsRow_succ hown'; have hv4 : Boxed w4 g 33 (.slice A2 q c2) := ((Hv.out.alloc _).alloc _).kept hgrow (Boxed.not_row Hv.out (by decide) Hr.out); have ht4 : Blk w4 (g + 1) 46 #[.int .i64 tx, .int .i64 ty, .int .i64 tz] := Blk.grown ((Ht.out.alloc _).alloc _) hgrow (own_ne_blkS Hr.out Ht.out (by decide)); have hp4 : Blk w4 W.heap.size 46 #[.int .i64 px, .int .i64 py, .int .i64 pz] := Blk.grown ((Blk.new W 46 #[.int .i64 px, .int .i64 py, .int .i64 pz]).alloc _) hgrow (fun e => by have := (Hr.out.lt _ e.symm).2; omega); have hc4 := hv4.cell; have hf4 := hv4.frozen; have Hv4 := Lib.hid hv4; have Ht4 := Lib.hid ht4; have Hp4 := Lib.hid hp4; have Hg4 := Lib.hid hgrow; have Ho4 := Lib.hid hown'; have hp5 := hp4.far (p := ⟨g, 0, none⟩) (by show W.heap.size ≠ g; omega) (.slice (some ⟨g', 0, none⟩) (q + 1) cap'); have r0 := (hp5.cell 0).trans rfl; have r1 := (hp5.cell 1).trans rfl; have r2 := (hp5.cell 2).trans rfl; have ht5 := ht4.far (p := ⟨g, 0, none⟩) (by show g + 1 ≠ g; omega) (.slice (some ⟨g', 0, none⟩) (q + 1) cap'); have f0 := ht5.frozen 0; have f1 := ht5.frozen 1; have f2 := ht5.frozen 2; have s0 := (ht5.cell 0).trans rfl; have s1 := (ht5.cell 1).trans rfl; have s2 := (ht5.cell 2).trans rfl; clear hv4 ht4 hp4 hgrow hown' hp5 ht5)
      obtain ⟨z1, z2, z3, z4, z5⟩ := sky_push Hv4.out Ht4.out Hg4.out Hr.out Ho4.out (by omega) (by omega) (px := .int .i64 px) (py := .int .i64 py) (pz := .int .i64 pz)
      exact ⟨z1.from _, z2, ⟨_, outs ++ [i], px, py, pz, z3, by rw [List.length_append, ← Hq.out, HSn.out]; exact z4, z5, HYes.out (.inr (.inl (of_decide_eq_true e1)))⟩, Hbb.out.trans z2⟩
    · gi_wp2_with (gi_at_builtin; refine wpListIn_append_own _ rfl _ _ 33 rfl (zS + 1) 3 i0 (.int .i64 0) 1 8 Tryd.underlying33 hii hz0' hz1' hz2' rfl (by decide) _ _ _ rfl ((Hr.out.alloc _).alloc _) ⟨W.heap.size + 1, 0, none⟩ 1 1 [.int .i64 i] rfl rfl (cell_new_at _ _ _ (by simp)) (by simp [Value.oneCell']) (by unfold maxLen; omega) (by omega) (by simp; omega) ?_; intro v' w4 hown' hgrow hnil; obtain ⟨g', cap', rfl⟩ := ownsRow_succ hown'; have hv4 : Boxed w4 g 33 (.slice A2 q c2) := ((Hv.out.alloc _).alloc _).kept hgrow (Boxed.not_row Hv.out (by decide) Hr.out); have ht4 : Blk w4 (g + 1) 46 #[.int .i64 tx, .int .i64 ty, .int .i64 tz] := Blk.grown ((Ht.out.alloc _).alloc _) hgrow (own_ne_blkS Hr.out Ht.out (by decide)); have hp4 : Blk w4 W.heap.size 46 #[.int .i64 px, .int .i64 py, .int .i64 pz] := Blk.grown ((Blk.new W 46 #[.int .i64 px, .int .i64 py, .int .i64 pz]).alloc _) hgrow (fun e => by have := (Hr.out.lt _ e.symm).2; omega); have hc4 := hv4.cell; have hf4 := hv4.frozen; have Hv4 := Lib.hid hv4; have Ht4 := Lib.hid ht4; have Hp4 := Lib.hid hp4; have Hg4 := Lib.hid hgrow; have Ho4 := Lib.hid hown'; have hp5 := hp4.far (p := ⟨g, 0, none⟩) (by show W.heap.size ≠ g; omega) (.slice (some ⟨g', 0, none⟩) (q + 1) cap'); have r0 := (hp5.cell 0).trans rfl; have r1 := (hp5.cell 1).trans rfl; have r2 := (hp5.cell 2).trans rfl; have ht5 := ht4.far (p := ⟨g, 0, none⟩) (by show g + 1 ≠ g; omega) (.slice (some ⟨g', 0, none⟩) (q + 1) cap'); have f0 := ht5.frozen 0; have f1 := ht5.frozen 1; have f2 := ht5.frozen 2; have s0 := (ht5.cell 0).trans rfl; have s1 := (ht5.cell 1).trans rfl; have s2 := (ht5.cell 2).trans rfl; clear hv4 ht4 hp4 hgrow hown' hp5 ht5)
      obtain ⟨z1, z2, z3, z4, z5⟩ := sky_push Hv4.out Ht4.out Hg4.out Hr.out Ho4.out (by omega) (by omega) (px := .int .i64 px) (py := .int .i64 py) (pz := .int .i64 pz)
      exact ⟨z1.from _, z2, ⟨_, outs ++ [i], px, py, pz, z3, by rw [List.length_append, ← Hq.out, HSn.out]; exact z4, z5, HYes.out (.inr (.inr ⟨beq_iff_eq.1 e2, beq_iff_eq.1 e3⟩))⟩, Hbb.out.trans z2⟩
    · gi_wp2_with fail
      exact ⟨(KeepsOthers.alloc _ _).from _, (BelowOff.refl _ _ _).alloc (by omega) _, ⟨_, outs, tx, ty, tz, Hv.out.alloc _, by rw [← Hq.out]; exact Hr.out.alloc _, Ht.out.alloc _, HNo.out hk0 (Int.not_lt.1 (of_decide_eq_false e1)) (fun h => by rw [beq_eq_false_iff_ne] at e3; exact e3 h.2)⟩, Hbb.out.alloc (by omega) _⟩
    · gi_wp2_with fail
      exact ⟨(KeepsOthers.alloc _ _).from _, (BelowOff.refl _ _ _).alloc (by omega) _, ⟨_, outs, tx, ty, tz, Hv.out.alloc _, by rw [← Hq.out]; exact Hr.out.alloc _, Ht.out.alloc _, HNo.out hk0 (Int.not_lt.1 (of_decide_eq_false e1)) (fun h => by rw [beq_eq_false_iff_ne] at e2; exact e2 h.1)⟩, Hbb.out.alloc (by omega) _⟩
  case done =>
    rintro D W hD ⟨⟨ov, outs, tx, ty, tz, hv, hr, ht, hst⟩, hbb⟩ hK
    obtain ⟨A2, c2, rfl⟩ := own_shape hr
    have hlen := hst.short HOrd.out
    have HSt := Lib.hid hst
    have hmem := Lib.hid (hst.mem HOrd.out)
    obtain ⟨q, hq⟩ : ∃ q, q = outs.length := ⟨_, rfl⟩
    rw [← hq] at hr hv hlen
    have Hq := Lib.hid hq
    clear hq hst
    have hcv := hv.cell
    have HRev := Lib.hid (reverse_own (l := natL outs) hr (by omega))
    gi_wp2_with fail
    refine ⟨trivial, ?_⟩
    gi_at_call 24
    refine (callsIn_wide.2 HRev.out).mono ?_
    rintro e W6 ⟨rfl, hrow6, hg6⟩
    have hv6 : Boxed W6 g 33 (.slice A2 q c2) := hv.kept hg6 (hv.not_row (by decide) hr)
    have hcv6 := hv6.cell
    have hDl : D < W.heap.size := (Array.getElem?_eq_some_iff.1 hK).1
    have hK6 : W6.heap[D]? = some (.deferred (some [])) := (hg6.block D hDl (fun e' => by
      rcases hr.2 with ⟨h1, h2⟩ | ⟨gg, cap, cur, h1, _, hgb, _⟩
      · rw [h1] at e'; simp [Value.ownBlock] at e'
      · rw [h1] at e'
        simp [Value.ownBlock] at e'
        rw [← e'] at hgb
        rw [hK] at hgb; cases hgb)).trans hK
    have hb6 : BelowOff (zS + 1) (fun b => b = g ∨ b = g + 1) W0 W6 := hbb.trans (.of_below (below_push (Below.refl _ W) hr (Nat.le_refl _) (by have := hbb.size; omega) hg6))
    gi_wp2_with fail
    have hrow7 : W6.ownsRow (zS + 1) 3 1 (.slice A2 q c2) q ((natL outs.reverse).map (Value.int .i64)) := by
      have : natL outs.reverse = (natL outs).reverse := by simp [natL]
      rw [this]; exact hrow6
    have hwf : ∀ z ∈ natL outs.reverse, (Lit.int .i64 z).wf = true := fun z hz => by
      unfold natL at hz
      obtain ⟨j, hj, rfl⟩ := List.mem_map.1 hz
      have := hmem.out j (List.mem_reverse.1 hj)
      exact int_wf (by unfold I64; omega)
    have hlq : (natL outs.reverse).length = q := by rw [natL_len, List.length_reverse, Hq.out]
    have hrow8 := ownsRow_putObj hrow7 (.deferred none) hK6 rfl
    refine ⟨by simp, .inl ⟨_, _, rfl, run_takeDeferred hK6, ?_⟩⟩
    refine ⟨_, results_tmp2 rfl _ _ _, _, natL outs.reverse, rfl, ?_, ?_, ?_⟩
    · have hst := HSt.out
      rw [Nat.sub_self] at hst
      exact hst.done HOrd.out HCc.out.symm
    · have := own_ints (by rw [← hlq] at hrow8; exact hrow8) (by omega) hwf
      rw [hlq] at this
      exact this
    · exact (HW0.out.trans (hb6.below (by omega) (fun i hi => by omega))).trans (belowK_b (w := w) (Nat.le_refl _) W6 D _ _ (by omega) hK6 rfl rfl)
end Go.Proofs.YtlojecajonhmhaaDoor
