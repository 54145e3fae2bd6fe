/-
  Contract of klee.sweep: the closure is called at each strip between borders, with how wide it is, the rows and the depths there. Conditions: the rectangles can be read as data and are not refused; the closure turns one block of one cell, and what it lays.
-/
import Derived.Test.YtnkflafkalmnmaaMTopUnits11
import Derived.Test.YtnkflafkalmnmaaMTopUnits14
import Derived.Test.YtnkflafkalmnmaaMTopUnits15
import Derived.Test.YtnkflafkalmnmaaMTopUnits19
import Derived.Test.YtnkflafkalmnmaaMTopUnits20
import Derived.Test.YtnkflafkalmnmaaMTopUnits27
import Derived.Test.YtnkflafkalmnmaaMTopUnits28
import Derived.Test.YtnkflafkalmnmaaShelf
import Derived.Deep.RegionHeld3
import Derived.Deep.CutRange
namespace Go.Dam.Klee
open Go Go.RowKit Go.Dam
set_option linter.unusedVariables false
theorem own_but {w w' : World} {base size n gB : Nat} {E : TypeId} {v : Value} {xs : List Value} (h : w.ownsRow base E size v n xs) (hb : BelowBut w.heap.size gB w w') (hg : gB < base) : w'.ownsRow base E size v n xs := by
  refine ⟨h.1, ?_⟩
  rcases h.2 with hn | ⟨g, cap, cur, rfl, h1, h2, rest⟩
  · exact .inl hn
  · exact .inr ⟨g, cap, cur, rfl, h1, (hb.block g (Array.getElem?_eq_some_iff.1 h2).1 (by omega)).trans h2, rest⟩
/-- A row of two numbers or more does not lie in a block of one cell. -/
theorem ints_but {w w' : World} {gB : Nat} {v : Value} {l : List Int} (h : IsInts .i64 w w.heap.size v l) (h2 : 2 ≤ l.length) (h1 : ∀ o, 1 ≤ o → w.cell? ⟨gB, o, none⟩ = none) (hb : BelowBut w.heap.size gB w w') : IsInts .i64 w' w.heap.size v l := by
  obtain ⟨A, c, rfl, hc, hm, hn, hr, hw⟩ := h
  refine ⟨A, c, rfl, hc, hm, hn, ⟨hr.1, fun hp => ?_⟩, hw⟩
  obtain ⟨b, off, e, hlt, hcells⟩ := ints_cells hr hp
  have hne : b ≠ gB := fun e' => by
    subst e'
    have a := hcells 1 (by omega)
    rw [h1 (off + 1) (by omega)] at a
    cases a
  obtain ⟨ad, e2, hlt2, hc2⟩ := hr.2 hp
  have : ad = ⟨b, off, none⟩ := by rw [e] at e2; injection e2 with e2; exact e2.symm
  subst this
  refine ⟨_, e2, hlt2, fun j u hu => ?_⟩
  rw [← hc2 j u hu]
  have hbl : ((⟨b, off, none⟩ : Addr).add j).block = b := by unfold Addr.add; split <;> rfl
  exact hb.cell (by rw [hbl]; exact hlt2) (by rw [hbl]; exact hne)
/-- What is asked of the closure. -/
structure DoOk (P : Program) (l : List Int) (n : Nat) (ys : List Int) (g : Nat) (lb : Array Value) (gB : Nat) (J : List Bd → Nat → World → Prop) (w : World) : Prop where
  eg : ∀ args w, (callFunc g args).run P w = .ok (.enter g args) w
  low : gB < w.heap.size
  one : ∀ bs i W, J bs i W → ∀ o, 1 ≤ o → W.cell? ⟨gB, o, none⟩ = none
  grow : ∀ bs i W W', J bs i W → Below w.heap.size W W' → J bs i W'
  skip : ∀ bs i W, SortX bs → i < bs.length → ¬ (0 < i ∧ bx bs (i - 1) < bx bs i) → J bs i W → J bs (i + 1) W
  zero : ∀ bs, J bs 0 w
  call : ∀ bs i W yv dv, bs.Perm (bdsOf l n) → SortX bs → i + 1 < bs.length → bx bs i < bx bs (i + 1) → J bs (i + 1) W → IsInts .i64 W W.heap.size yv ys → IsInts .i64 W W.heap.size dv (rowD bs ys (i + 1)) →
    Calls P g (#[.int .i64 (bx bs (i + 1) - bx bs i), yv, dv] ++ lb) W fun e W' => e = .returned (.tuple #[]) ∧ J bs (i + 2) W' ∧ BelowBut W.heap.size gB W W'
/-- What the second loop keeps. -/
def SwInv (tB : TypeId) (tI : TypeId) (J : List Bd → Nat → World → Prop) (bs : List Bd) (ys : List Int) (base k m : Nat) (yv bv dv : Value) (j i : Nat) (W : World) : Prop :=
  J bs j W ∧ IsInts .i64 W W.heap.size dv (rowD bs ys i) ∧ W.ownsRow base tI 1 yv m (ys.map (Value.int .i64)) ∧ W.ownsRow base tB 4 bv k ((flatB bs).map (Value.int .i64)) ∧ base ≤ W.heap.size
theorem SwInv.grow {tB tI : TypeId} {J : List Bd → Nat → World → Prop} {bs : List Bd} {ys : List Int} {base k m j i : Nat} {yv bv dv : Value} {W W' : World} (h : SwInv tB tI J bs ys base k m yv bv dv j i W) (hJ : ∀ bs i W W', J bs i W → Below base W W' → J bs i W') (hb : Below W.heap.size W W') : SwInv tB tI J bs ys base k m yv bv dv j i W' := by
  obtain ⟨h1, h2, h3, h4, h5⟩ := h
  exact ⟨hJ _ _ _ _ h1 (hb.mono h5), (h2.below hb).more hb.size, own_size h3 hb, own_size h4 hb, Nat.le_trans h5 hb.size⟩
theorem rowD_i64 {bs : List Bd} {ys : List Int} {i : Nat} (h : ∀ b ∈ bs, b.2.2.2 = 1 ∨ b.2.2.2 = -1) (hi : i ≤ bs.length) (h80 : bs.length ≤ 80) : ∀ z ∈ rowD bs ys i, -80 ≤ z ∧ z ≤ 80 := fun z hz => by
  unfold rowD at hz
  obtain ⟨y, _, rfl⟩ := List.mem_map.1 hz
  have := so_bd h y i hi
  omega
theorem replicate_wf {n : Nat} : ∀ z ∈ List.replicate n (0 : Int), (Lit.int .i64 z).wf = true := fun z hz => by
  rw [List.eq_of_mem_replicate hz]; decide
theorem lessV_at {l ys : List Int} (h : ValsR l ys) {z : Int} (hz : z ∈ l) : ∃ k, k < ys.length ∧ (ys.take ys.length).countP (· < z) = k ∧ ys.getD k 0 = z := by
  have h1 := h.at_rank ((h.2 z).2 hz)
  exact ⟨_, h1.1, by rw [List.take_length]; with_unfolding_all rfl, h1.2⟩
theorem flat4_op (w : World) (t : TypeId) {a b c d : Int} (ha : I64 a) (hb : I64 b) (hc : I64 c) (hd : I64 d) : IsFlat 4 (w.alloc (.cells #[.int .i64 a, .int .i64 b, .int .i64 c, .int .i64 d] t)) (w.heap.size + 1) (.slice (some ⟨w.heap.size, 0, none⟩) 1 1) 1 [a, b, c, d] := by
  refine ⟨_, 1, rfl, Nat.le_refl _, by decide, by decide, rfl, ⟨rfl, fun _ => ⟨_, rfl, Nat.lt_succ_self _, fun j u hu => ?_⟩⟩, fun z hz => int_wf ?_⟩
  · rw [add_zero_addr, cell_of_row _ _ j _ _ _ (heap_alloc_new w _), ← hu]; simp
  · simp only [List.mem_cons, List.not_mem_nil, or_false] at hz
    rcases hz with rfl | rfl | rfl | rfl <;> assumption
theorem el_pair2 {w : World} {g : Nat} {a b : Value} {t : TypeId} (hg : g = w.heap.size) : ∀ j u, [a, b][j]? = some u → (w.alloc (.cells #[a, b] t)).cell? ((⟨g, 0, none⟩ : Addr).add j) = some u := by
  subst hg
  intro j u hj
  rw [add_zero_addr, cell_of_row _ _ j _ _ _ (heap_alloc_new w _), ← hj]; simp
theorem ones_ints {l : List Int} : ∀ u ∈ l.map (Value.int .i64), u.oneCell' = true := fun u hu => by
  obtain ⟨z, _, rfl⟩ := List.mem_map.1 hu; rfl
theorem news_ints {w : World} {g : Nat} {l : List Int} {t : TypeId} (hg : g = w.heap.size) : ∀ j u, (l.map (Value.int .i64))[j]? = some u → (w.alloc (.cells (l.map (Value.int .i64)).toArray t)).cell? ((⟨g, 0, none⟩ : Addr).add j) = some u := by
  subst hg
  intro j u hj
  rw [add_zero_addr, cell_of_row _ _ j _ _ _ (heap_alloc_new w _), ← hj]; simp
end Go.Dam.Klee
namespace Go.Proofs.Ytnkflafkalmnmaa
open Go Go.RowKit Go.Dam Go.Dam.Klee
set_option linter.unusedVariables false
theorem own_atI {w : World} {base g n c : Nat} {l : List Int} (h : w.ownsRow base 3 1 (.slice (some ⟨g, 0, none⟩) n c) n (l.map (Value.int .i64))) (hl : l.length = n) {i : Nat} (hi : i < n) : w.cell? ⟨g, i, none⟩ = some (.int .i64 (l.getD i 0)) := by
  rw [h.cellAt i (by omega), List.getElem?_map, List.getD_eq_getElem?_getD, List.getElem?_eq_getElem (by omega)]; rfl
theorem el_border : El Try.prog 55 57 (.agg #[.int .i64 0, .int .i64 0, .int .i64 0, .int .i64 0]) 4 32 := ⟨Try.underlying55, by kernel_rfl, rfl, by decide⟩
set_option maxRecDepth 100000 in
set_option maxHeartbeats 16000000 in
theorem kleeSweep_any (v : Value) (n : Nat) (l : List Int) (g : Nat) (lb : Array Value) (gB : Nat) (J : List Bd → Nat → World → Prop) (w : World) (h : IsFlat 4 w w.heap.size v n l) (hR : rcCode n l = 0) (hD : DoOk Try.prog l n (Lib.compact (sortI (ysOf l n))) g lb gB J w) :
    Calls Try.prog 13 #[v, .func (.func g) #[] lb] w fun e w' => e = .returned (.tuple #[]) ∧ ∃ bs : List Bd, bs.Perm (bdsOf l n) ∧ SortX bs ∧ J bs bs.length w' := by
  obtain ⟨A, c, rfl, hc, hm, hn, hl, hr, hw⟩ := h
  obtain ⟨hn1, hfine⟩ := rcCode_ok hR
  have HFine := Lib.hid fun i hi => badRc_fine (hfine i hi)
  have HD := Lib.hid hD
  clear hfine hR hD hw
  go_enter Try.func13, Try.ntmps13
  go_wp2_with fail
  go_loopw [4, 5, 17] (fun yv bv iv wr => ∃ i k : Nat, i ≤ n ∧ k + 0 = 2 * i ∧ iv = .int .i64 i ∧ Hid (wr.ownsRow w.heap.size 3 1 yv k ((ysOf l i).map (Value.int .i64))) ∧ Hid (wr.ownsRow w.heap.size 57 4 bv k ((flatB (bdsOf l i)).map (Value.int .i64))) ∧ Hid (Below w.heap.size w wr)) (fun _ _ iv _ => n - (intOf iv).toNat)
  case atStart => exact ⟨0, 0, by omega, rfl, rfl, Lib.hid (World.ownsRow_nil _ _ _ _), Lib.hid (World.ownsRow_nil _ _ _ _), Lib.hid (Below.refl _ _)⟩
  case round =>
    obtain ⟨wo, rfl⟩ : ∃ wo : World, wo = wr := ⟨_, rfl⟩
    obtain ⟨i, k, hi, hk, rfl, HY, HBd, HB⟩ := hrel
    obtain ⟨A1, cY, rfl⟩ := own_shape HY.out
    obtain ⟨A2, cB, rfl⟩ := own_shape HBd.out
    have hzo := HB.out.size
    by_cases hlt : i < n
    · obtain ⟨b, off, rfl, hb, hcells⟩ := flat_cells hr hl (by omega) (by omega)
      have c0 := (HB.out.cell (p := ⟨b, off + i * 4, none⟩) (by simp; omega)).trans (hcells (i * 4) (by omega))
      have c1 := (HB.out.cell (p := ⟨b, off + i * 4 + 1, none⟩) (by simp; omega)).trans (hcells (i * 4 + 1) (by omega))
      have c2 := (HB.out.cell (p := ⟨b, off + i * 4 + 2, none⟩) (by simp; omega)).trans (hcells (i * 4 + 2) (by omega))
      have c3 := (HB.out.cell (p := ⟨b, off + i * 4 + 3, none⟩) (by simp; omega)).trans (hcells (i * 4 + 3) (by omega))
      have hfa := HFine.out i hlt
      have HYs : Hid (ysOf l (i + 1) = ysOf l i ++ [l.getD (i * 4 + 1) 0, l.getD (i * 4 + 3) 0 + 1]) := Lib.hid rfl
      have HBs : Hid (flatB (bdsOf l (i + 1)) = flatB (bdsOf l i) ++ [l.getD (i * 4) 0, l.getD (i * 4 + 1) 0, l.getD (i * 4 + 3) 0 + 1, 1, l.getD (i * 4 + 2) 0 + 1, l.getD (i * 4 + 1) 0, l.getD (i * 4 + 3) 0 + 1, -1]) := Lib.hid (by rw [bdsOf, flatB_app]; rfl)
      have HK := Lib.hid hk
      have hk80 : k ≤ 80 := by omega
      generalize l.getD (i * 4) 0 = x0 at *
      generalize l.getD (i * 4 + 1) 0 = x1 at *
      generalize l.getD (i * 4 + 2) 0 = x2 at *
      generalize l.getD (i * 4 + 3) 0 = x3 at *
      have w3 : IntKind.i64.wrap (x3 + 1) = x3 + 1 := by rw [IntKind.wrap_i64]; omega
      have w2 : IntKind.i64.wrap (x2 + 1) = x2 + 1 := by rw [IntKind.wrap_i64]; omega
      have hne : (Value.slice A1 k cY).ownBlock ≠ some wo.heap.size := fun e => by have := (HY.out.lt _ e).2; omega
      have HBx := Lib.hid (Box4.new (a := .int .i64 x0) (b := .int .i64 x1) (c := .int .i64 x2) (d := .int .i64 x3) (t := 30) (w := wo) rfl)
      have HSt1 : Hid (∀ w2, ((wo.alloc (.cells #[.int .i64 x0, .int .i64 x1, .int .i64 x2, .int .i64 x3] 30)).alloc (.cells #[.int .i64 x1, .int .i64 (x3 + 1)] 3)).grownBy w2 (Value.slice A1 k cY).ownBlock → wo.heap.size + 1 + 1 ≤ w2.heap.size ∧ Hid (w2.ownsRow w.heap.size 57 4 (.slice A2 k cB) k ((flatB (bdsOf l i)).map (Value.int .i64))) ∧ Hid (Below w.heap.size w w2) ∧ Box4 w2 wo.heap.size (.int .i64 x0) (.int .i64 x1) (.int .i64 x2) (.int .i64 x3)) := Lib.hid fun w2 hg2 => by
        have hz2 := hg2.size
        simp only [World.size_alloc] at hz2
        exact ⟨hz2, Lib.hid ((own_apart HY.out HBd.out (by decide)).kept hg2 ((HBd.out.alloc _).alloc _)), Lib.hid (below_push ((HB.out.alloc hzo _).alloc (by simp; omega) _) ((HY.out.alloc _).alloc _) (Nat.le_refl _) (by simp; omega) hg2), (HBx.out.alloc (by simp) _).grown hg2 (by simp; omega) hne⟩
      clear hcells hk hr hl
      go_wp2_with (first
        | (at_builtin; refine wpList_pushM el_int rfl _ _ rfl w.heap.size _ k _ ((HY.out.alloc _).alloc _) rfl ⟨wo.heap.size + 1, 0, none⟩ 2 _ [.int .i64 x1, .int .i64 (x3 + 1)] rfl rfl (el_pair2 (by simp)) (by intro u hu; simp at hu; rcases hu with rfl | rfl <;> rfl) (by omega) (by omega) (by simp; omega) ?_; intro v2 w2 hown2 hg2 hl2; have HO2 := Lib.hid hown2; obtain ⟨hz2, HBd2, HB2, b0, b1, b2, b3⟩ := HSt1.out w2 hg2; clear hown2 hg2 hl2)
        | (at_builtin; refine wpList_pushM el_border rfl _ _ rfl w.heap.size _ k _ (HBd2.out.alloc _) rfl ⟨w2.heap.size, 0, none⟩ 2 _ ([x0, x1, x3 + 1, 1, x2 + 1, x1, x3 + 1, -1].map (Value.int .i64)) rfl rfl (news_ints rfl) ones_ints (by omega) (by omega) (by simp; omega) ?_; intro v3 w3 hown3 hg3 hl3; have HO3 := Lib.hid hown3; have HG3 := Lib.hid hg3; clear hown3 hg3 hl3))
      have HY3 := Lib.hid ((own_apart HBd2.out HO2.out (by decide)).kept HG3.out (HO2.out.alloc _))
      have HB3 := Lib.hid (below_push (HB2.out.alloc (by omega) _) (HBd2.out.alloc _) (Nat.le_refl _) (by simp; omega) HG3.out)
      go_roundw
      case rel =>
        refine ⟨i + 1, k + 2, by omega, by have := HK.out; omega, by go_num, Lib.hid (by rw [HYs.out, List.map_append]; exact HY3.out), Lib.hid (by rw [HBs.out, List.map_append]; exact HO3.out), HB3⟩
      case measure => simp [intOf]; omega
    · obtain rfl : i = n := by omega
      have t1 : decide ((i : Int) < (i : Int)) = false := decide_eq_false (by omega)
      obtain ⟨ys, hys⟩ : ∃ ys, Lib.compact (sortI (ysOf l i)) = ys := ⟨_, rfl⟩
      have HVs : Hid (ValsR (ysOf l i) ys) := Lib.hid (by rw [← hys]; exact valsR_compact _)
      obtain ⟨m, hm1⟩ : ∃ m, ys.length = m := ⟨_, rfl⟩
      have HM := Lib.hid hm1
      have HYs := Lib.hid hys
      have hm80 : m ≤ 80 := by have := HVs.out.len; rw [ys_len] at this; omega
      have hk80 : k ≤ 80 := by omega
      have HK := Lib.hid hk
      have HD := Lib.hid (hys ▸ HD.out)
      have HNe := Lib.hid (show 3 ≠ 57 by decide)
      have hmk := fun w' => run_make1 el_int rfl (m : Int) m rfl (by omega) (by omega) w'
      clear hm1 hys hk hr hl
      go_wp2_with (first
        | (go_at_call 24; refine (sortSlice_own HY.out (by omega)).mono ?_; rintro e w2 ⟨rfl, hown2, hg2⟩; have HY2 := Lib.hid hown2; have HBd2 := Lib.hid ((own_apart HY.out HBd.out HNe.out).kept hg2 HBd.out); have HB2 := Lib.hid (below_push HB.out HY.out (Nat.le_refl _) hzo hg2); clear hown2 hg2)
        | (go_at_call 15; refine (compact_own HY2.out (by omega)).mono ?_; rintro e w3 ⟨rfl, hown3, hg3⟩; rw [HYs.out, HM.out] at hown3 ⊢; have HY3 := Lib.hid hown3; have HBd3 := Lib.hid ((own_apart HY2.out HBd2.out HNe.out).kept hg3 HBd2.out); have HB3 := Lib.hid (below_push HB2.out HY2.out (Nat.le_refl _) HB2.out.size hg3); clear hown3 hg3)
        | (go_at_call 25; refine (sortBd_own HBd3.out (by omega)).mono ?_; rintro e w4 ⟨rfl, bs, hperm, hsort, hown4, hg4⟩; have HY4 := Lib.hid ((own_apart HBd3.out HY3.out (Ne.symm HNe.out)).kept hg4 HY3.out); have HBd4 := Lib.hid hown4; have HB4 := Lib.hid (below_push HB3.out HBd3.out (Nat.le_refl _) HB3.out.size hg4); have HPm := Lib.hid hperm; have HSo := Lib.hid hsort; clear hown4 hg4 hperm hsort))
      have hbl : bs.length = k := by have := HPm.out.length_eq; rw [bds_len] at this; have := HK.out; omega
      have HBy : Hid (∀ b ∈ bs, b.2.2.2 = 1 ∨ b.2.2.2 = -1) := Lib.hid fun b hb => (bds_ok (HPm.out.mem_iff.1 hb)).by_
      have HBok : Hid (∀ j, j < k → BdOk l i (bs.getD j (0, 0, 0, 0))) := Lib.hid fun j hj => bds_ok (HPm.out.mem_iff.1 (by rw [List.getD_eq_getElem?_getD, List.getElem?_eq_getElem (by omega)]; exact List.getElem_mem (by omega)))
      have HBl := Lib.hid hbl
      have hz4 := HB4.out.size
      have HRd : Hid (∀ j, j ≤ k → ∀ z ∈ rowD bs ys j, -80 ≤ z ∧ z ≤ 80) := Lib.hid fun j hj => rowD_i64 HBy.out (by omega) (by omega)
      have HYw : Hid (∀ z ∈ ys, (Lit.int .i64 z).wf = true) := Lib.hid fun z hz => by
        obtain ⟨q, hq, hz2⟩ := ys_mem ((HVs.out.2 z).1 hz)
        have := HFine.out q hq
        exact WalkArith.wf_i64 (by omega)
      have HI0 : Hid (IsInts .i64 (w4.alloc (.cells (List.replicate m (Value.int .i64 0)).toArray 3)) (w4.alloc (.cells (List.replicate m (Value.int .i64 0)).toArray 3)).heap.size (.slice (some ⟨w4.heap.size, 0, none⟩) m m) (rowD bs ys 0)) := Lib.hid (by
        have := IBlk.isInts (IBlk.zeros (k := .i64) (t := 3) w4 m) (by simp; omega) replicate_wf
        rw [rowD_0, HM.out]
        simpa using this)
      clear hmk hbl HY HBd HB HY2 HBd2 HB2 HY3 HBd3 HB3 HYs
      go_loopw [8, 61] (fun dv iv wr => ∃ (j : Nat) (A5 : Option Addr) (c5 : Nat), j ≤ k ∧ iv = .int .i64 j ∧ dv = .slice A5 m c5 ∧ Hid (SwInv 57 3 J bs ys w.heap.size k m (.slice A1 m cY) (.slice A2 k cB) (.slice A5 m c5) j j wr)) (fun _ iv _ => k - (intOf iv).toNat)
      case atStart => exact ⟨0, _, _, by omega, rfl, rfl, Lib.hid ⟨HD.out.grow _ _ _ _ (HD.out.zero bs) (HB4.out.alloc hz4 _), HI0.out, HY4.out.alloc _, HBd4.out.alloc _, by simp; omega⟩⟩
      case round =>
        clear HY4 HBd4 HI0
        obtain ⟨wo, rfl⟩ : ∃ wo : World, wo = wr := ⟨_, rfl⟩
        obtain ⟨j, A5, c5, hj, rfl, rfl, HI⟩ := hrel
        by_cases hlt : j < k
        · obtain ⟨q, hq, e1, e2, e3⟩ := HBok.out j hlt
          have hfa := HFine.out q hq
          obtain ⟨lo, hlo, hLo, glo⟩ := lessV_at HVs.out (z := (bs.getD j (0, 0, 0, 0)).2.1) (by rw [e1]; exact (mem_ys hq).1)
          obtain ⟨hi, hhi, hHi, ghi⟩ := lessV_at HVs.out (z := (bs.getD j (0, 0, 0, 0)).2.2.1) (by rw [e2]; exact (mem_ys hq).2)
          have hlh : lo < hi := by
            rcases Nat.lt_or_ge lo hi with h | h
            · exact h
            · have := HVs.out.asc hi lo h (by omega); omega
          have hxb : -1048577 ≤ bx bs j ∧ bx bs j ≤ 1048577 := by unfold bx; omega
          have hyb : (bs.getD j (0, 0, 0, 0)).2.2.2 = 1 ∨ (bs.getD j (0, 0, 0, 0)).2.2.2 = -1 := by omega
          have HNx := Lib.hid (row_next (fun a b h1 h2 => HVs.out.lt_at h1 h2) (by have := HBl.out; omega) hlh hhi glo ghi hyb)
          obtain ⟨g3, cap3, hv3, hg3, hlt3⟩ := HI.out.2.2.1.form (by have := HM.out; omega)
          obtain rfl : A1 = some ⟨g3, 0, none⟩ := by injection hv3
          obtain ⟨g4, cap4, hv4, hg4, hlt4⟩ := HI.out.2.2.2.1.form (by omega)
          clear hv3 hlt3
          obtain ⟨bb, bo, rfl, hbb, hcells⟩ := flat_cells (Reads.of_own HI.out.2.2.2.1) (by rw [flatB_len, HBl.out]) (by omega) (by omega)
          obtain rfl : g4 = bb := by injection hv4 with a _ _; injection a with a; injection a with a b; exact a.symm
          clear hv4 hlt4
          have hfb := flatB_at bs j (by have := HBl.out; omega)
          have f0 : wo.cell? ⟨g4, bo + j * 4, none⟩ = some (.int .i64 (bx bs j)) := (hcells (j * 4) (by omega)).trans (by rw [hfb.1]; rfl)
          have f1 : wo.cell? ⟨g4, bo + j * 4 + 1, none⟩ = some (.int .i64 (bs.getD j (0, 0, 0, 0)).2.1) := (hcells (j * 4 + 1) (by omega)).trans (by rw [hfb.2.1])
          have f2 : wo.cell? ⟨g4, bo + j * 4 + 2, none⟩ = some (.int .i64 (bs.getD j (0, 0, 0, 0)).2.2.1) := (hcells (j * 4 + 2) (by omega)).trans (by rw [hfb.2.2.1])
          have f3 : wo.cell? ⟨g4, bo + j * 4 + 3, none⟩ = some (.int .i64 (bs.getD j (0, 0, 0, 0)).2.2.2) := (hcells (j * 4 + 3) (by omega)).trans (by rw [hfb.2.2.2])
          have HPv : Hid (∀ u, u < k → wo.cell? ⟨g4, bo + u * 4, none⟩ = some (.int .i64 (bx bs u))) := Lib.hid fun u hu => (hcells (u * 4) (by omega)).trans (by rw [(flatB_at bs u (by have := HBl.out; omega)).1]; rfl)
          obtain ⟨lb', hlb⟩ : ∃ x, x = (bs.getD j (0, 0, 0, 0)).2.1 := ⟨_, rfl⟩
          obtain ⟨hb', hhb⟩ : ∃ x, x = (bs.getD j (0, 0, 0, 0)).2.2.1 := ⟨_, rfl⟩
          obtain ⟨yb, hyb'⟩ : ∃ x, x = (bs.getD j (0, 0, 0, 0)).2.2.2 := ⟨_, rfl⟩
          obtain ⟨xb, hxb'⟩ : ∃ x, x = bx bs j := ⟨_, rfl⟩
          rw [← hlb] at f1 hLo
          rw [← hhb] at f2 hHi
          rw [← hyb'] at f3 hyb HNx
          rw [← hxb'] at f0 hxb
          obtain ⟨gp, hgp⟩ : ∃ b : Bool, b = decide (0 < j ∧ bx bs (j - 1) < bx bs j) := ⟨_, rfl⟩
          have HGp := Lib.hid hgp
          have HXb := Lib.hid hxb'
          have HLo := Lib.hid hLo
          have HHi := Lib.hid hHi
          have hzo := HI.out.2.2.2.2
          have hm2 : hi < m := by have := HM.out; omega
          have HIn : Hid (SwInv 57 3 J bs ys w.heap.size k m (.slice (some ⟨g3, 0, none⟩) m cY) (.slice (some ⟨g4, bo, none⟩) k cB) (.slice A5 m c5) j j (wo.alloc (.cells #[.int .i64 xb, .int .i64 lb', .int .i64 hb', .int .i64 yb] 57))) := Lib.hid (HI.out.grow HD.out.grow ((Below.refl _ _).alloc (Nat.le_refl _) _))
          have HBx := Lib.hid (Box4.new (a := .int .i64 xb) (b := .int .i64 lb') (c := .int .i64 hb') (d := .int .i64 yb) (t := 57) (w := wo) rfl)
          clear hcells hfb hlb hhb hyb' hxb' hgp e1 e2 e3 glo ghi hLo hHi hfa hlo hhi
          go_upto_region 15 with fail
          go_cut [61, 78] from 61 to 119 (fun iv v wx => iv = .int .i64 j ∧ v = .bool gp ∧ Hid (Box4 wx wo.heap.size (.int .i64 xb) (.int .i64 lb') (.int .i64 hb') (.int .i64 yb) ∧ SwInv 57 3 J bs ys w.heap.size k m (.slice (some ⟨g3, 0, none⟩) m cY) (.slice (some ⟨g4, bo, none⟩) k cB) (.slice A5 m c5) j j wx ∧ wo.heap.size < wx.heap.size))
          case first =>
            obtain ⟨b0, b1, b2, b3⟩ := HBx.out
            rcases Nat.eq_zero_or_pos j with hj0 | hj0
            · subst hj0
              have HGf : Hid (false = gp) := Lib.hid (by rw [HGp.out]; simp)
              go_quiet (fail)
              go_wp2
              go_meet
              case rel => exact ⟨rfl, congrArg Value.bool HGf.out, Lib.hid ⟨HBx.out.keep fun p _ => rfl, HIn.out.grow HD.out.grow (below_drewN (Below.refl _ _) _), by show wo.heap.size < (wo.alloc _).heap.size; simp⟩⟩
            · obtain ⟨u, rfl⟩ : ∃ u, j = u + 1 := ⟨j - 1, by omega⟩
              have p0 := (HPv.out u (by omega))
              have p1 : (wo.alloc (.cells #[.int .i64 xb, .int .i64 lb', .int .i64 hb', .int .i64 yb] 57)).cell? ⟨g4, bo + u * 4, none⟩ = some (.int .i64 (bx bs u)) := (World.cell?_alloc_lt _ _ _ (by show g4 < _; omega)).trans p0
              obtain ⟨xp, hxp⟩ : ∃ x, x = bx bs u := ⟨_, rfl⟩
              have HGf : Hid (decide (xp < xb) = gp) := Lib.hid (by rw [HGp.out, HXb.out, hxp]; simp)
              rw [← hxp] at p1
              have hnat : u < k := by omega
              have hint : (u : Int) < (k : Int) := by omega
              have ew : IntKind.i64.wrap ((u : Int) + 1 - 1) = (u : Int) := by rw [IntKind.wrap_i64]; omega
              have et : decide (0 < (u : Int) + 1) = true := decide_eq_true (by omega)
              have e9 : (u : Int) + 1 - 1 = (u : Int) := by omega
              clear p0 hxp
              go_quiet (fail)
              go_wp2
              go_meet
              case rel => exact ⟨rfl, congrArg Value.bool HGf.out, Lib.hid ⟨HBx.out.keep fun p _ => rfl, HIn.out.grow HD.out.grow (below_drewN (Below.refl _ _) _), by show wo.heap.size < (wo.alloc _).heap.size; simp⟩⟩
          case rest =>
            obtain ⟨rfl, rfl, HC⟩ := hcut
            have hw1 : IntKind.i64.wrap ((hi : Int) - 1) = (hi : Int) - 1 := by rw [IntKind.wrap_i64]; omega
            cases gp with
            | false =>
              have HT : Hid (Box4 wc wo.heap.size (.int .i64 xb) (.int .i64 lb') (.int .i64 hb') (.int .i64 yb) ∧ SwInv 57 3 J bs ys w.heap.size k m (.slice (some ⟨g3, 0, none⟩) m cY) (.slice (some ⟨g4, bo, none⟩) k cB) (.slice A5 m c5) (j + 1) j wc ∧ wo.heap.size < wc.heap.size) := Lib.hid ⟨HC.out.1, ⟨HD.out.skip bs j wc HSo.out (by have := HBl.out; omega) (by have := HGp.out; intro h; rw [decide_eq_true h] at this; cases this) HC.out.2.1.1, HC.out.2.1.2⟩, HC.out.2.2⟩
              clear HC
              obtain ⟨b0, b1, b2, b3⟩ := HT.out.1
              have hzt := HT.out.2.2
              have HS := Lib.hid fun x W (hb : Below wc.heap.size wc W) => Try.slices_BinarySearch_int g3 0 ys.length cY ys x W (Nat.le_refl _) (by have := HM.out; omega) (fun u hu => by rw [Nat.zero_add]; exact own_atI (own_size HT.out.2.1.2.2.1 hb) HM.out (by have := HM.out; omega)) (by rw [List.take_length]; exact HVs.out.1.imp fun h => Int.le_of_lt h)
              rw [HM.out] at HS
              have HS1 : Hid (∀ W, Below wc.heap.size wc W → Calls Try.prog 28 #[.slice (some ⟨g3, 0, none⟩) m cY, .int .i64 lb'] W fun e w' => (∃ f : Bool, e = .returned (.tuple #[.int .i64 (lo : Int), .bool f])) ∧ ∃ q, w' = W.drewN q) := Lib.hid fun W hb => by
                have h := HS.out lb' W hb
                have hl := HLo.out
                rw [HM.out] at hl
                rw [hl] at h
                exact h.mono fun e w' ⟨h1, h2⟩ => ⟨⟨_, h1⟩, h2⟩
              have HS2 : Hid (∀ W, Below wc.heap.size wc W → Calls Try.prog 28 #[.slice (some ⟨g3, 0, none⟩) m cY, .int .i64 hb'] W fun e w' => (∃ f : Bool, e = .returned (.tuple #[.int .i64 (hi : Int), .bool f])) ∧ ∃ q, w' = W.drewN q) := Lib.hid fun W hb => by
                have h := HS.out hb' W hb
                have hl := HHi.out
                rw [HM.out] at hl
                rw [hl] at h
                exact h.mono fun e w' ⟨h1, h2⟩ => ⟨⟨_, h1⟩, h2⟩
              have HPl : Hid (∀ q, Calls Try.prog 29 #[.slice A5 m c5, .slice (some ⟨wc.heap.size, 0, none⟩) 1 1] ((wc.drewN q).alloc (.cells #[.int .i64 1, .int .i64 (lo : Int), .int .i64 ((hi : Int) - 1), .int .i64 yb] 67)) fun e w' => ∃ xr A6 c6, e = .returned (.tuple #[xr, .slice A6 m c6, .int .i64 0]) ∧ SwInv 57 3 J bs ys w.heap.size k m (.slice (some ⟨g3, 0, none⟩) m cY) (.slice (some ⟨g4, bo, none⟩) k cB) (.slice A6 m c6) (j + 1) (j + 1) w') := Lib.hid fun q => by
                have hI := HT.out.2.1.grow HD.out.grow ((below_drewN (Below.refl wc.heap.size wc) q).alloc (Nat.le_refl _) (.cells #[.int .i64 1, .int .i64 (lo : Int), .int .i64 ((hi : Int) - 1), .int .i64 yb] 67))
                have hF4 : IsFlat 4 ((wc.drewN q).alloc (.cells #[.int .i64 1, .int .i64 (lo : Int), .int .i64 ((hi : Int) - 1), .int .i64 yb] 67)) ((wc.drewN q).alloc (.cells #[.int .i64 1, .int .i64 (lo : Int), .int .i64 ((hi : Int) - 1), .int .i64 yb] 67)).heap.size (.slice (some ⟨wc.heap.size, 0, none⟩) 1 1) 1 [1, (lo : Int), (hi : Int) - 1, yb] := by
                  rw [World.size_alloc]
                  exact flat4_op (wc.drewN q) _ (by unfold I64; omega) (by unfold I64; omega) (by unfold I64; omega) (by unfold I64; omega)
                refine (segPlay_any _ _ (rowD bs ys j) [1, (lo : Int), (hi : Int) - 1, yb] _ (rowD bs ys (j + 1)) 1 0 _ _ (Nat.le_refl _) hI.2.1 hF4 (.inr (.inr ⟨by rw [rowD_len, HM.out]; omega, ?_, rfl, HNx.out.symm, rfl⟩))).mono ?_
                · refine anyN_no fun u hu => ?_
                  have h1 := HRd.out j (by omega) ((rowD bs ys j).getD u 0) (getD_mem hu)
                  generalize (rowD bs ys j).getD u 0 = y at h1
                  simp [coordOk]; omega
                · rintro e we ⟨xr, yr, kr, rfl, hkr, hfr, hir, hbr⟩
                  obtain ⟨A6, c6, rfl, r1, r2, r3⟩ := hir.open_ (n := m) (by rw [rowD_len, HM.out])
                  have hg := hI.grow HD.out.grow hbr
                  exact ⟨xr, A6, c6, rfl, hg.1, hir, hg.2.2⟩
              clear HS HT HBx HIn HNx HPv HLo HHi HGp HXb HI
              go_wp2_with (first
                | (go_at_call 28; with_reducible refine (HS1.out _ (by first | exact Below.refl _ _ | exact below_drewN (Below.refl _ _) _)).mono ?_; rintro e w5 ⟨⟨f5, rfl⟩, q5, rfl⟩)
                | (go_at_call 28; with_reducible refine (HS2.out _ (by first | exact Below.refl _ _ | exact below_drewN (Below.refl _ _) _)).mono ?_; rintro e w6 ⟨⟨f6, rfl⟩, q6, rfl⟩)
                | (go_at_call 29; refine (HPl.out _).mono ?_; rintro e w7 ⟨xr, A6, c6, rfl, hinv⟩; have HV7 := Lib.hid hinv; clear hinv))
              go_roundw
              case rel => exact ⟨j + 1, A6, c6, by omega, by go_num, rfl, HV7⟩
              case measure => simp [intOf]; omega
            | true =>
              have hj0 : 0 < j ∧ bx bs (j - 1) < bx bs j := by have := HGp.out; exact of_decide_eq_true this.symm
              obtain ⟨u, rfl⟩ : ∃ u, j = u + 1 := ⟨j - 1, by omega⟩
              have hgap : bx bs u < bx bs (u + 1) := hj0.2
              have HIx := HPv.out u (by omega)
              have p0 : wc.cell? ⟨g4, bo + u * 4, none⟩ = some (.int .i64 (bx bs u)) := by
                obtain ⟨bb5, bo5, e5, _, hc5⟩ := flat_cells (Reads.of_own HC.out.2.1.2.2.2.1) (by rw [flatB_len, HBl.out]) (by omega) (by omega)
                injection e5 with e5; injection e5 with e5 e6
                subst e5 e6
                exact (hc5 (u * 4) (by omega)).trans (by rw [(flatB_at bs u (by have := HBl.out; omega)).1]; rfl)
              obtain ⟨xp, hxp⟩ : ∃ x, x = bx bs u := ⟨_, rfl⟩
              have hxpb : -1048577 ≤ xp ∧ xp ≤ 1048577 := by
                obtain ⟨q2, hq2, e1, e2, e3⟩ := HBok.out u (by omega)
                have hfa := HFine.out q2 hq2
                rw [hxp]; unfold bx; omega
              have ew : IntKind.i64.wrap ((u : Int) + 1 - 1) = (u : Int) := by rw [IntKind.wrap_i64]; omega
              have ew2 : IntKind.i64.wrap (xb - xp) = xb - xp := by rw [IntKind.wrap_i64]; omega
              have e9 : (u : Int) + 1 - 1 = (u : Int) := by omega
              have hnat : u < k := by omega
              have hint : (u : Int) < (k : Int) := by omega
              have HYi : Hid (IsInts .i64 wc.drew wc.drew.heap.size (.slice (some ⟨g3, 0, none⟩) m cY) ys) := Lib.hid (by
                have := own_ints HC.out.2.1.2.2.1 (by have := HM.out; omega) HYw.out
                exact this)
              have HCj : Hid (Calls Try.prog g (#[.int .i64 (xb - xp), .slice (some ⟨g3, 0, none⟩) m cY, .slice A5 m c5] ++ lb) wc.drew fun e W' => e = .returned (.tuple #[]) ∧ (Box4 W' wo.heap.size (.int .i64 xb) (.int .i64 lb') (.int .i64 hb') (.int .i64 yb) ∧ SwInv 57 3 J bs ys w.heap.size k m (.slice (some ⟨g3, 0, none⟩) m cY) (.slice (some ⟨g4, bo, none⟩) k cB) (.slice A5 m c5) (u + 1 + 1) (u + 1) W' ∧ wo.heap.size < W'.heap.size) ∧ W'.cell? ⟨g4, bo + u * 4, none⟩ = some (.int .i64 xp)) := Lib.hid (by
                have hJd : J bs (u + 1) wc.drew := HD.out.grow _ _ _ _ HC.out.2.1.1 (below_drewN (Below.refl _ _) 1)
                have hc := HD.out.call bs u wc.drew _ _ HPm.out HSo.out (by have := HBl.out; omega) hgap hJd HYi.out HC.out.2.1.2.1
                rw [← hxp, ← HXb.out] at hc
                refine hc.mono ?_
                rintro e W' ⟨rfl, hJ', hbb⟩
                have hzz : wc.drew.heap.size ≤ W'.heap.size := hbb.size
                have hlow := HD.out.low
                have hsz := HC.out.2.2
                refine ⟨rfl, ⟨HC.out.1.keep fun p hp => (hbb.cell (p := p) (by show p.block < wc.heap.size; omega) (by omega)), ⟨hJ', (ints_but (w := wc.drew) HC.out.2.1.2.1 (by rw [rowD_len, HM.out]; omega) (HD.out.one _ _ _ hJd) hbb).more hzz, own_but (w := wc.drew) HC.out.2.1.2.2.1 hbb hlow, own_but (w := wc.drew) HC.out.2.1.2.2.2.1 hbb hlow, Nat.le_trans HC.out.2.1.2.2.2.2 hzz⟩, Nat.lt_of_lt_of_le hsz hzz⟩, ?_⟩
                rw [hxp]
                exact (hbb.cell (p := ⟨g4, bo + u * 4, none⟩) (by show g4 < wc.heap.size; omega) (by show g4 ≠ gB; omega)).trans p0)
              rw [← hxp] at p0
              obtain ⟨b0, b1, b2, b3⟩ := HC.out.1
              have ew3 : IntKind.i64.wrap (((u + 1 : Nat) : Int) - 1) = (u : Int) := by rw [IntKind.wrap_i64]; omega
              have hint0 : (0 : Int) ≤ (u : Int) := by omega
              have ew4 : IntKind.i64.wrap (u : Int) = (u : Int) := by rw [IntKind.wrap_i64]; omega
              have hile : (u : Int) ≤ (k : Int) := by omega
              have hkc : k ≤ cB := by
                have := HC.out.2.1.2.2.2.1
                exact own_cap this
              clear hj0 hgap HIx HYi hxp
              go_upto_region 16 with fail
              have eg := HD.out.eg
              go_region_held3 (fun W => W.cell? ⟨wo.heap.size, 0, none⟩ = some (.int .i64 xb) ∧ W.cell? ⟨g4, bo + u * 4, none⟩ = some (.int .i64 xp))
                (first
                  | exact ⟨b0, p0⟩
                  | exact (fun h => ⟨h.1.1.1, h.2⟩ : (Box4 _ wo.heap.size (.int .i64 xb) (.int .i64 lb') (.int .i64 hb') (.int .i64 yb) ∧ _ ∧ _) ∧ _ → _) (by assumption))
                (first
                  | (go_at_fn g; refine HCj.out.mono ?_; rintro e wt ⟨rfl, hJ⟩))
              have HT := Lib.hid hJ.1
              clear hJ p0 b0 b1 b2 b3 HC HCj
              obtain ⟨b0, b1, b2, b3⟩ := HT.out.1
              have hzt := HT.out.2.2
              have HS := Lib.hid fun x W (hb : Below wt.heap.size wt W) => Try.slices_BinarySearch_int g3 0 ys.length cY ys x W (Nat.le_refl _) (by have := HM.out; omega) (fun z0 hu => by rw [Nat.zero_add]; exact own_atI (own_size HT.out.2.1.2.2.1 hb) HM.out (by have := HM.out; omega)) (by rw [List.take_length]; exact HVs.out.1.imp fun h => Int.le_of_lt h)
              rw [HM.out] at HS
              have HS1 : Hid (∀ W, Below wt.heap.size wt W → Calls Try.prog 28 #[.slice (some ⟨g3, 0, none⟩) m cY, .int .i64 lb'] W fun e w' => (∃ f : Bool, e = .returned (.tuple #[.int .i64 (lo : Int), .bool f])) ∧ ∃ q, w' = W.drewN q) := Lib.hid fun W hb => by
                have h := HS.out lb' W hb
                have hl := HLo.out
                rw [HM.out] at hl
                rw [hl] at h
                exact h.mono fun e w' ⟨h1, h2⟩ => ⟨⟨_, h1⟩, h2⟩
              have HS2 : Hid (∀ W, Below wt.heap.size wt W → Calls Try.prog 28 #[.slice (some ⟨g3, 0, none⟩) m cY, .int .i64 hb'] W fun e w' => (∃ f : Bool, e = .returned (.tuple #[.int .i64 (hi : Int), .bool f])) ∧ ∃ q, w' = W.drewN q) := Lib.hid fun W hb => by
                have h := HS.out hb' W hb
                have hl := HHi.out
                rw [HM.out] at hl
                rw [hl] at h
                exact h.mono fun e w' ⟨h1, h2⟩ => ⟨⟨_, h1⟩, h2⟩
              have HPl : Hid (∀ q, Calls Try.prog 29 #[.slice A5 m c5, .slice (some ⟨wt.heap.size, 0, none⟩) 1 1] ((wt.drewN q).alloc (.cells #[.int .i64 1, .int .i64 (lo : Int), .int .i64 ((hi : Int) - 1), .int .i64 yb] 67)) fun e w' => ∃ xr A6 c6, e = .returned (.tuple #[xr, .slice A6 m c6, .int .i64 0]) ∧ SwInv 57 3 J bs ys w.heap.size k m (.slice (some ⟨g3, 0, none⟩) m cY) (.slice (some ⟨g4, bo, none⟩) k cB) (.slice A6 m c6) (u + 1 + 1) (u + 1 + 1) w') := Lib.hid fun q => by
                have hI := HT.out.2.1.grow HD.out.grow ((below_drewN (Below.refl wt.heap.size wt) q).alloc (Nat.le_refl _) (.cells #[.int .i64 1, .int .i64 (lo : Int), .int .i64 ((hi : Int) - 1), .int .i64 yb] 67))
                have hF4 : IsFlat 4 ((wt.drewN q).alloc (.cells #[.int .i64 1, .int .i64 (lo : Int), .int .i64 ((hi : Int) - 1), .int .i64 yb] 67)) ((wt.drewN q).alloc (.cells #[.int .i64 1, .int .i64 (lo : Int), .int .i64 ((hi : Int) - 1), .int .i64 yb] 67)).heap.size (.slice (some ⟨wt.heap.size, 0, none⟩) 1 1) 1 [1, (lo : Int), (hi : Int) - 1, yb] := by
                  rw [World.size_alloc]
                  exact flat4_op (wt.drewN q) _ (by unfold I64; omega) (by unfold I64; omega) (by unfold I64; omega) (by unfold I64; omega)
                refine (segPlay_any _ _ (rowD bs ys (u + 1)) [1, (lo : Int), (hi : Int) - 1, yb] _ (rowD bs ys (u + 1 + 1)) 1 0 _ _ (Nat.le_refl _) hI.2.1 hF4 (.inr (.inr ⟨by rw [rowD_len, HM.out]; omega, ?_, rfl, HNx.out.symm, rfl⟩))).mono ?_
                · refine anyN_no fun z0 hu => ?_
                  have h1 := HRd.out (u + 1) (by omega) ((rowD bs ys (u + 1)).getD z0 0) (getD_mem hu)
                  generalize (rowD bs ys (u + 1)).getD z0 0 = y at h1
                  simp [coordOk]; omega
                · rintro e we ⟨xr, yr, kr, rfl, hkr, hfr, hir, hbr⟩
                  obtain ⟨A6, c6, rfl, r1, r2, r3⟩ := hir.open_ (n := m) (by rw [rowD_len, HM.out])
                  have hg := hI.grow HD.out.grow hbr
                  exact ⟨xr, A6, c6, rfl, hg.1, hir, hg.2.2⟩
              clear HS HT HBx HIn HNx HPv HLo HHi HGp HXb HI
              go_wp2_with (first
                | (go_at_call 28; with_reducible refine (HS1.out _ (by first | exact Below.refl _ _ | exact below_drewN (Below.refl _ _) _)).mono ?_; rintro e w5 ⟨⟨f5, rfl⟩, q5, rfl⟩)
                | (go_at_call 28; with_reducible refine (HS2.out _ (by first | exact Below.refl _ _ | exact below_drewN (Below.refl _ _) _)).mono ?_; rintro e w6 ⟨⟨f6, rfl⟩, q6, rfl⟩)
                | (go_at_call 29; refine (HPl.out _).mono ?_; rintro e w7 ⟨xr, A6, c6, rfl, hinv⟩; have HV7 := Lib.hid hinv; clear hinv))
              go_roundw
              case rel => exact ⟨u + 1 + 1, A6, c6, by omega, by go_num, rfl, HV7⟩
              case measure => simp [intOf]; omega
        · obtain rfl : j = k := by omega
          go_wp2
          go_end0
          exact ⟨rfl, bs, HPm.out, HSo.out, by rw [HBl.out]; exact HI.out.1⟩
end Go.Proofs.Ytnkflafkalmnmaa
