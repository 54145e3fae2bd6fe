/-
  Texts of one claim behind each other. Conditions: none of its own.
-/
import Derived.Test.YtlojecajonhmhaaGreatDoorMQueryEvals51
import Derived.Test.YtlojecajonhmhaaGreatDoorMQueryEvals05
import Derived.Test.YtlojecajonhmhaaGreatDoorMQueryEvals03
import Derived.Test.YtlojecajonhmhaaGreatDoorRows
set_option linter.unusedVariables false
set_option linter.unusedSimpArgs false
/-
  The walk of the law QueryEvals: query.Eval and the reference answer alike. Conditions: the expression can be read eight levels down and is not larger than the memory; the points can be read as data; the library's table of powers of ten holds what the library lays.
-/
namespace Go.Proofs.YtlojecajonhmhaaGreatDoor
open Go Go.RowKit Go.Dam Go.Dam.Q
set_option linter.unusedVariables false
set_option maxRecDepth 100000 in
set_option maxHeartbeats 4000000 in
theorem queryEvals_walk (xv v : Value) (w : World) (h : ∃ x, IsEx w w.heap.size 8 xv x ∧ 48 * sizeN 8 x ≤ 140737488355328) (hp : ∃ n l, IsFlat 3 w w.heap.size v n l) (hT : Tab w) :
    Calls Tryz.prog 3 #[xv, v] w fun e w' => e = .returned (.bool true) ∧ RowKit.Below w.heap.size w w' := by
  obtain ⟨x, h, hsz⟩ := h
  obtain ⟨n, l, hp⟩ := hp
  have HF := Lib.hid fun W (hb : RowKit.Below w.heap.size w W) => queryEval_any x xv v n l W w.heap.size hb.size (h.below hb) (hp.below hb) hsz (hT.below hb)
  have HR := Lib.hid fun W (hb : RowKit.Below w.heap.size w W) => refEval_any x xv v n l W w.heap.size hb.size (h.below hb) (hp.below hb) hsz
  obtain ⟨k, x0, y0, x1, y1, ww, EA, en, ec, rfl⟩ := exV_of h
  obtain ⟨A, c, rfl, hc, hm, hn, hl, hr, hw⟩ := hp
  generalize evC n l x = C at *
  clear h hsz hT hr hw hl hm hc hn
  unfold exV at *
  have HK := Lib.hid (Blk.new w 26 #[.int .i64 k, .int .i64 x0, .int .i64 y0, .int .i64 x1, .int .i64 y1, .int .i64 ww, .slice EA en ec])
  have HB0 := Lib.hid ((RowKit.Below.refl w.heap.size w).alloc (Nat.le_refl _) (.cells #[.int .i64 k, .int .i64 x0, .int .i64 y0, .int .i64 x1, .int .i64 y1, .int .i64 ww, .slice EA en ec] 26))
  go_enter Tryz.func3, Tryz.ntmps3
  go_wp2_with (first
    | (go_at_call 4; refine (HF.out _ HB0.out).mono ?_; rintro e w1 ⟨⟨u1, r, rfl, hS, hi⟩, hb1⟩; have HS := Lib.hid hS; have HI := Lib.hid hi; obtain ⟨A1, c1', rfl, _⟩ := hi; have HB1 := Lib.hid (HB0.out.trans (hb1.mono (by simp))); have HK1 := Lib.hid (HK.out.below hb1 (by simp)); have c0 := (HK1.out.cell 0).trans rfl; have c1 := (HK1.out.cell 1).trans rfl; have c2 := (HK1.out.cell 2).trans rfl; have c3 := (HK1.out.cell 3).trans rfl; have c4 := (HK1.out.cell 4).trans rfl; have c5 := (HK1.out.cell 5).trans rfl; have c6 := (HK1.out.cell 6).trans rfl; clear hb1 hS)
    | (go_at_call 5; refine (HR.out _ HB1.out).mono ?_; rintro e w2 ⟨⟨u2, r', rfl, hR, hi2⟩, hb2⟩; obtain rfl := HS.out.uniq hR; have HI2 := Lib.hid hi2; obtain ⟨A2, c2', rfl, _⟩ := hi2; have HB2 := Lib.hid hb2; clear hb2 hR)
    | (go_at_call 6; refine (sameInts_any _ _ _ _ _ ((HI.out.below HB2.out).more HB2.out.size) HI2.out).mono ?_; rintro e w3 ⟨rfl, hd3⟩; have HD3 := Lib.hid hd3; clear hd3))
  go_ret
  exact ⟨ret_bool (by simp), (HB1.out.trans (HB2.out.mono HB1.out.size)).trans (HD3.out.below _)⟩
end Go.Proofs.YtlojecajonhmhaaGreatDoor

/-
  How an expression that came in as data is opened: it can be read so many levels down, and it is not larger than its reading. Conditions: none.
-/
namespace Go.Proofs.YtlojecajonhmhaaGreatDoor
open Go Go.RowKit Go.ChangeShapes Go.WideShapes Go.Joins Go.Deep Go.Dam Go.Dam.Q
set_option linter.unusedVariables false
theorem bulkAll_range {H : Type} (D : Nat → DataW H) : ∀ n, Rows.uptoBulkAll ((List.range n).map D) = ((List.range n).map fun i => Rows.uptoBulk (D i)).sum := by
  have h : ∀ l : List Nat, Rows.uptoBulkAll (l.map D) = (l.map fun i => Rows.uptoBulk (D i)).sum := by
    intro l
    induction l with
    | nil => simp [Rows.uptoBulkAll]
    | cons x l ih => simp only [List.map_cons, Rows.uptoBulkAll, List.sum_cons, ih]
  exact fun n => h _
theorem lit_bulk {H : Type} (k : IntKind) (z : Int) : Rows.uptoBulk (DataW.lit (H := H) (.int k z)) = 1 := by simp [Rows.uptoBulk]
theorem one_cell {H : Type} {enc : TypeId × Value → H} {w : World} {base : Nat} {spare : Nat → Bool} {held : Bool} {m : Nat} {cs : List Value} {y : DataW H × List MemPlace} (h : DataW.trod enc Tryz.prog w base spare held m 3 cs = some y) : ∃ z, cs = [.int .i64 z] := by
  obtain ⟨k, e1, _⟩ := DataW.trod_int Tryz.underlying3 h
  exact ⟨k, e1⟩
set_option maxRecDepth 100000 in
/-- An expression's own numbers, and its parts as a slice. -/
theorem ex_head {H : Type} {enc : TypeId × Value → H} {w : World} {base : Nat} {spare : Nat → Bool} {held : Bool} {fuel : Nat} {cs : List Value} {y : DataW H × List MemPlace} (h : DataW.trod enc Tryz.prog w base spare held fuel 26 cs = some y) (hz : Sized Tryz.prog 26 y.1) :
    ∃ k x0 y0 x1 y1 ww c6 m d, cs = [.int .i64 k, .int .i64 x0, .int .i64 y0, .int .i64 x1, .int .i64 y1, .int .i64 ww, c6] ∧ DataW.trod enc Tryz.prog w base spare held m 24 [c6] = some d ∧ Sized Tryz.prog 24 d.1 ∧ Rows.uptoBulk d.1 + 1 ≤ Rows.uptoBulk y.1 := by
  obtain ⟨xs, m, _, hx, hlen, hn4, hf⟩ := DataW.trod_struct Tryz.underlying26 h
  have h4 : xs.length = 4 := hn4
  have hc7 : cs.length = 7 := hlen.trans (by kernel_rfl)
  obtain ⟨a, b, c, d, rfl⟩ : ∃ a b c d, xs = [a, b, c, d] := by
    match xs, h4 with
    | [a, b, c, d], _ => exact ⟨a, b, c, d, rfl⟩
  obtain ⟨c0, c1, c2, c3, c4, c5, c6, rfl⟩ : ∃ c0 c1 c2 c3 c4 c5 c6, cs = [c0, c1, c2, c3, c4, c5, c6] := by
    clear h hf hlen
    match cs, hc7 with
    | [c0, c1, c2, c3, c4, c5, c6], _ => exact ⟨c0, c1, c2, c3, c4, c5, c6, rfl⟩
  have k1 : Tryz.prog.cellsOf 3 = 1 := by kernel_rfl
  have k4 : Tryz.prog.cellsOf 23 = 4 := by kernel_rfl
  have ks : Tryz.prog.cellsOf 24 = 1 := by kernel_rfl
  have f0 := hf 0 _ rfl
  have f1 := hf 1 _ rfl
  have f2 := hf 2 _ rfl
  have f3 := hf 3 _ rfl
  replace f0 : DataW.trod enc Tryz.prog w base spare held m 3 (List.take (Tryz.prog.cellsOf 3) (List.drop 0 [c0, c1, c2, c3, c4, c5, c6])) = some a := f0
  replace f1 : DataW.trod enc Tryz.prog w base spare held m 23 (List.take (Tryz.prog.cellsOf 23) (List.drop 1 [c0, c1, c2, c3, c4, c5, c6])) = some b := f1
  replace f2 : DataW.trod enc Tryz.prog w base spare held m 3 (List.take (Tryz.prog.cellsOf 3) (List.drop 5 [c0, c1, c2, c3, c4, c5, c6])) = some c := f2
  replace f3 : DataW.trod enc Tryz.prog w base spare held m 24 (List.take (Tryz.prog.cellsOf 24) (List.drop 6 [c0, c1, c2, c3, c4, c5, c6])) = some d := f3
  rw [k1] at f0 f2
  rw [k4] at f1
  rw [ks] at f3
  simp only [List.drop, List.take] at f0 f1 f2 f3
  obtain ⟨k, e0⟩ := one_cell f0
  obtain ⟨ww, e5⟩ := one_cell f2
  simp only [List.cons.injEq, and_true] at e0 e5
  subst e0 e5
  obtain ⟨zs, m2, _, hx2, hlen2, hn42, hf2⟩ := DataW.trod_struct Tryz.underlying23 f1
  have h42 : zs.length = 4 := hn42
  obtain ⟨a', b', c', d', rfl⟩ : ∃ a b c d, zs = [a, b, c, d] := by
    match zs, h42 with
    | [a, b, c, d], _ => exact ⟨a, b, c, d, rfl⟩
  have g0 := hf2 0 _ rfl
  have g1 := hf2 1 _ rfl
  have g2 := hf2 2 _ rfl
  have g3 := hf2 3 _ rfl
  replace g0 : DataW.trod enc Tryz.prog w base spare held m2 3 (List.take (Tryz.prog.cellsOf 3) (List.drop 0 [c1, c2, c3, c4])) = some a' := g0
  replace g1 : DataW.trod enc Tryz.prog w base spare held m2 3 (List.take (Tryz.prog.cellsOf 3) (List.drop 1 [c1, c2, c3, c4])) = some b' := g1
  replace g2 : DataW.trod enc Tryz.prog w base spare held m2 3 (List.take (Tryz.prog.cellsOf 3) (List.drop 2 [c1, c2, c3, c4])) = some c' := g2
  replace g3 : DataW.trod enc Tryz.prog w base spare held m2 3 (List.take (Tryz.prog.cellsOf 3) (List.drop 3 [c1, c2, c3, c4])) = some d' := g3
  rw [k1] at g0 g1 g2 g3
  simp only [List.drop, List.take] at g0 g1 g2 g3
  obtain ⟨x0, e1⟩ := one_cell g0
  obtain ⟨y0, e2⟩ := one_cell g1
  obtain ⟨x1, e3⟩ := one_cell g2
  obtain ⟨y1, e4⟩ := one_cell g3
  simp only [List.cons.injEq, and_true] at e1 e2 e3 e4
  subst e1 e2 e3 e4
  have hy : y.1 = .agg [a.1, b.1, c.1, d.1] := by have := congrArg Prod.fst hx; simpa using this
  refine ⟨k, x0, y0, x1, y1, ww, c6, m, d, rfl, f3, ?_, ?_⟩
  · rw [hy] at hz
    exact hz.field Tryz.underlying26 (j := 3) rfl rfl
  · rw [hy]
    simp only [Rows.uptoBulk, Rows.uptoBulkAll]
    omega
theorem ex_len {H : Type} {d : DataW H × List MemPlace} {len m' : Nat} {D : Nat → DataW H} {Pl : List MemPlace} (hz : Sized Tryz.prog 24 d.1) (hx : d = (.slice ((List.range len).map D) ((List.range (m' - len)).map fun j => D (len + j)), Pl)) : len ≤ 140737488355328 := by
  have h1 := hz ((((List.range len).map D).length + ((List.range (m' - len)).map fun j => D (len + j)).length) * Tryz.prog.bytesOf 26) (by rw [hx]; simp [DataW.weights, Tryz.underlying24])
  have hby : 1 ≤ Tryz.prog.bytesOf 26 := of_decide_eq_true (by kernel_rfl)
  have h2 : len * 1 ≤ (((List.range len).map D).length + ((List.range (m' - len)).map fun j => D (len + j)).length) * Tryz.prog.bytesOf 26 := Nat.mul_le_mul (by simp) hby
  have hr2 : reachBytes = 140737488351232 := rfl
  omega
set_option maxRecDepth 100000 in
theorem ex_of {H : Type} {enc : TypeId × Value → H} {w : World} {base : Nat} {spare : Nat → Bool} {held : Bool} : ∀ (f fuel : Nat) (cs : List Value) (y : DataW H × List MemPlace), DataW.trod enc Tryz.prog w base spare held fuel 26 cs = some y → Sized Tryz.prog 26 y.1 →
    ∃ k x0 y0 x1 y1 ww A n c ex, cs = [.int .i64 k, .int .i64 x0, .int .i64 y0, .int .i64 x1, .int .i64 y1, .int .i64 ww, .slice A n c] ∧ IsEx w w.heap.size f (exV k x0 y0 x1 y1 ww A n c) ex ∧ sizeN f ex ≤ Rows.uptoBulk y.1 := by
  intro f
  induction f with
  | zero =>
    intro fuel cs y h hz
    obtain ⟨k, x0, y0, x1, y1, ww, c6, m, d, rfl, hd, hzd, hbk⟩ := ex_head h hz
    have hsz : ∀ ex : Ex, sizeN 0 ex ≤ Rows.uptoBulk y.1 := fun ex => by
      have : sizeN 0 ex = 1 := by with_unfolding_all rfl
      omega
    rcases open_slice Tryz.underlying24 hd with ⟨e, _⟩ | ⟨a, len, cap, m', n', D, Pl, e, hb, hl, hm, hmm, hx, hi⟩
    · simp only [List.cons.injEq, and_true] at e
      subst e
      exact ⟨k, x0, y0, x1, y1, ww, none, 0, 0, .mk k x0 y0 x1 y1 ww [], rfl, by with_unfolding_all exact ⟨none, 0, rfl, Nat.zero_le _⟩, hsz _⟩
    · simp only [List.cons.injEq, and_true] at e
      subst e
      have hl2 := ex_len hzd hx
      exact ⟨k, x0, y0, x1, y1, ww, some a, len, cap, .mk k x0 y0 x1 y1 ww (List.replicate len noEx), rfl, by with_unfolding_all exact ⟨some a, cap, by rw [List.length_replicate], by rw [List.length_replicate]; omega⟩, hsz _⟩
  | succ f ih =>
    intro fuel cs y h hz
    obtain ⟨k, x0, y0, x1, y1, ww, c6, m, d, rfl, hd, hzd, hbk⟩ := ex_head h hz
    have hsz : ∀ ps : List Ex, sizeN (f + 1) (.mk k x0 y0 x1 y1 ww ps) = 1 + (ps.map (sizeN f)).sum := fun ps => by with_unfolding_all rfl
    rcases open_slice Tryz.underlying24 hd with ⟨e, hx⟩ | ⟨a, len, cap, m', n', D, Pl, e, hb, hl, hm, hmm, hx, hi⟩
    · simp only [List.cons.injEq, and_true] at e
      subst e
      refine ⟨k, x0, y0, x1, y1, ww, none, 0, 0, .mk k x0 y0 x1 y1 ww [], rfl, ?_, ?_⟩
      · with_unfolding_all exact ⟨none, 0, rfl, Nat.zero_le _, Nat.zero_le _, Nat.zero_le _, fun h => absurd h (by decide)⟩
      · rw [hsz]; simp only [List.map_nil, List.sum_nil]; omega
    · simp only [List.cons.injEq, and_true] at e
      subst e
      have hlm : len ≤ m' := by rw [hmm]; split <;> omega
      have hl2 := ex_len hzd hx
      have hm2 : cap ≤ 9223372036854775807 := by unfold maxLen at hm; omega
      have k7 : Tryz.prog.cellsOf 26 = 7 := by kernel_rfl
      rw [k7] at hi
      have hz2 : ∀ i, i < len → Sized Tryz.prog 26 (D i) := by
        intro i hil n hn
        refine hzd n ?_
        rw [hx]
        simp only [DataW.weights, Tryz.underlying24, List.mem_cons, List.mem_append]
        exact Or.inr (Or.inl (weightsAll_mem (List.mem_map.2 ⟨i, List.mem_range.2 hil, rfl⟩) hn))
      have key : ∀ i, i < len → ∃ ex v', sizeN f ex ≤ Rows.uptoBulk (D i) ∧ IsEx w w.heap.size f v' ex ∧ ∃ k x0 y0 x1 y1 ww A n c, v' = exV k x0 y0 x1 y1 ww A n c ∧ w.cells? base (a.add (i * 7)) 7 = some [.int .i64 k, .int .i64 x0, .int .i64 y0, .int .i64 x1, .int .i64 y1, .int .i64 ww, .slice A n c] := by
        intro i hil
        obtain ⟨cs', hc, ht⟩ := hi i (by omega)
        obtain ⟨k, x0, y0, x1, y1, ww, A, n, c, ex, rfl, h1, h2⟩ := ih n' cs' _ ht (hz2 i hil)
        exact ⟨ex, _, h2, h1, k, x0, y0, x1, y1, ww, A, n, c, rfl, hc⟩
      obtain ⟨F, hF⟩ : ∃ F : Nat → Ex, ∀ i, i < len → ∃ v', sizeN f (F i) ≤ Rows.uptoBulk (D i) ∧ IsEx w w.heap.size f v' (F i) ∧ ∃ k x0 y0 x1 y1 ww A n c, v' = exV k x0 y0 x1 y1 ww A n c ∧ w.cells? base (a.add (i * 7)) 7 = some [.int .i64 k, .int .i64 x0, .int .i64 y0, .int .i64 x1, .int .i64 y1, .int .i64 ww, .slice A n c] := by
        classical
        exact ⟨fun i => if h : i < len then Classical.choose (key i h) else noEx, fun i h => by simpa only [dif_pos h] using Classical.choose_spec (key i h)⟩
      have hpl : ((List.range len).map F).length = len := by simp
      have hpa : ∀ i, i < len → ((List.range len).map F).getD i noEx = F i := fun i hi => by
        rw [List.getD_eq_getElem?_getD, List.getElem?_map, List.getElem?_range hi]; rfl
      refine ⟨k, x0, y0, x1, y1, ww, some a, len, cap, .mk k x0 y0 x1 y1 ww ((List.range len).map F), rfl, ?_, ?_⟩
      · have hgoal : ∃ A c, exV k x0 y0 x1 y1 ww (some a) len cap = exV k x0 y0 x1 y1 ww A ((List.range len).map F).length c ∧ ((List.range len).map F).length ≤ 140737488355328 ∧ ((List.range len).map F).length ≤ c ∧ c ≤ 9223372036854775807 ∧ (0 < ((List.range len).map F).length → ∃ b o, A = some ⟨b, o, none⟩ ∧ b < w.heap.size ∧ ∀ i, i < ((List.range len).map F).length → ∃ v', ExAt w b (o + i * 7) v' ∧ IsEx w w.heap.size f v' (((List.range len).map F).getD i noEx)) := by
          refine ⟨some a, cap, by rw [hpl], by rw [hpl]; omega, by rw [hpl]; exact hl, by omega, fun hp => ?_⟩
          rw [hpl] at hp
          obtain ⟨b, o, sp⟩ := a
          have hsp : sp = none := by
            obtain ⟨v', _, hex, k, x0, y0, x1, y1, ww, A, n, c, rfl, hc⟩ := hF 0 hp
            obtain ⟨_, hcl, hat⟩ := World.cells?_some hc
            have h0 : w.cell? (((⟨b, o, sp⟩ : Addr).add (0 * 7)).add 0) = some (.int .i64 k) := hat 0 (by omega)
            simpa [Addr.add] using cell_spot h0
          subst hsp
          have hat : ∀ i, i < len → ∃ v', ExAt w b (o + i * 7) v' ∧ IsEx w w.heap.size f v' (F i) ∧ b < w.heap.size := fun i hil => by
            obtain ⟨v', _, hex, k, x0, y0, x1, y1, ww, A, n, c, rfl, hc⟩ := hF i hil
            obtain ⟨_, hcl, hat⟩ := World.cells?_some hc
            have at_ : ∀ j, j < 7 → w.cell? ((⟨b, o, none⟩ : Addr).add (i * 7 + j)) = ([.int .i64 k, .int .i64 x0, .int .i64 y0, .int .i64 x1, .int .i64 y1, .int .i64 ww, .slice A n c] : List Value)[j]? := fun j hj => by rw [← add_of_add]; exact hat j hj
            have h0 : w.cell? ((⟨b, o, none⟩ : Addr).add (i * 7)) = some (.int .i64 k) := at_ 0 (by omega)
            have hbl : b < w.heap.size := by have := cell_lt h0; rwa [block_of_add] at this
            have ad : ∀ j, (⟨b, o, none⟩ : Addr).add j = ⟨b, o + j, none⟩ := fun j => by unfold Addr.add; split <;> simp_all
            have c0 := at_ 0 (by omega)
            have c1 := at_ 1 (by omega)
            have c2 := at_ 2 (by omega)
            have c3 := at_ 3 (by omega)
            have c4 := at_ 4 (by omega)
            have c5 := at_ 5 (by omega)
            have c6 := at_ 6 (by omega)
            rw [ad, ← Nat.add_assoc] at c0 c1 c2 c3 c4 c5 c6
            exact ⟨_, ⟨k, x0, y0, x1, y1, ww, A, n, c, rfl, c0, c1, c2, c3, c4, c5, c6⟩, hex, hbl⟩
          obtain ⟨_, _, _, hbl⟩ := hat 0 hp
          refine ⟨b, o, rfl, hbl, fun i hil => ?_⟩
          rw [hpl] at hil
          obtain ⟨v', h1, h2, _⟩ := hat i hil
          exact ⟨v', h1, by rw [hpa i hil]; exact h2⟩
        with_unfolding_all exact hgoal
      · rw [hsz, List.map_map]
        have h1 : ((List.range len).map (sizeN f ∘ F)).sum ≤ ((List.range len).map fun i => Rows.uptoBulk (D i)).sum := sum_le _ _ fun i hi => by
          obtain ⟨_, h, _⟩ := hF i (List.mem_range.1 hi)
          exact h
        rw [← bulkAll_range] at h1
        rw [hx] at hbk
        simp only [Rows.uptoBulk] at hbk
        omega
end Go.Proofs.YtlojecajonhmhaaGreatDoor
