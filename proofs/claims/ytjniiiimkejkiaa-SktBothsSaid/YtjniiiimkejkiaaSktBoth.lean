/-
  Contracts of skt.Both and the reference's SktBoth, and the law's walk. Conditions: the arguments are lists of lists of ints.
-/
import Derived.Test.YtjniiiimkejkiaaSktMay
import Derived.Test.YtjniiiimkejkiaaSktMakePlain
import Derived.Test.YtjniiiimkejkiaaCloneInts
import Derived.Test.YtjniiiimkejkiaaSameRows
import Derived.Test.YtjniiiimkejkiaaOwnBlk
import Derived.Test.YtjniiiimkejkiaaStepPush
namespace Go.Dam
set_option linter.unusedVariables false
/-- Two rows, number by number. -/
def sumRow (l m : List Int) (n : Nat) : List Int := (List.range n).map fun i => l.getD i 0 + m.getD i 0
theorem sumRow_length (l m : List Int) (n : Nat) : (sumRow l m n).length = n := by simp [sumRow]
theorem sumRow_0 (l m : List Int) : sumRow l m 0 = [] := rfl
theorem sumRow_succ (l m : List Int) (n : Nat) : sumRow l m (n + 1) = sumRow l m n ++ [l.getD n 0 + m.getD n 0] := by simp [sumRow, List.range_succ]
/-- The first row, to whose first i numbers those of the other are added. -/
def sumPart (l m : List Int) (i : Nat) : List Int := (List.range l.length).map fun j => l.getD j 0 + if j < i then m.getD j 0 else 0
theorem sumPart_length (l m : List Int) (i : Nat) : (sumPart l m i).length = l.length := by simp [sumPart]
theorem sumPart_0 (l m : List Int) : sumPart l m 0 = l := by
  apply List.ext_getElem
  · simp [sumPart]
  · intro i h1 h2; simp [sumPart, h2]
theorem sumPart_at {l m : List Int} {i : Nat} (h : i < l.length) : (sumPart l m i).getD i 0 = l.getD i 0 := by simp [sumPart, h]
theorem sumPart_set {l m : List Int} {i : Nat} (h : i < l.length) : (sumPart l m i).set i (l.getD i 0 + m.getD i 0) = sumPart l m (i + 1) := by
  apply List.ext_getElem
  · simp [sumPart]
  · intro j h1 h2
    have hj : j < l.length := by simpa [sumPart] using h2
    rw [List.getElem_set]
    simp only [sumPart, List.getElem_map, List.getElem_range]
    by_cases hij : i = j
    · subst hij; simp
    · rw [if_neg hij]
      by_cases h3 : j < i
      · rw [if_pos h3, if_pos (by omega)]
      · rw [if_neg h3, if_neg (by omega)]
theorem sumPart_end {l m : List Int} {n : Nat} (h : l.length = n) : sumPart l m n = sumRow l m n := by
  subst h
  apply List.ext_getElem
  · simp [sumPart, sumRow]
  · intro j h1 h2
    have hj : j < l.length := by simpa [sumRow] using h2
    simp [sumPart, sumRow, hj]
theorem sumRow_wf {l m : List Int} {n : Nat} (h1 : ∀ i, 0 ≤ l.getD i 0 ∧ l.getD i 0 ≤ 1048576) (h2 : ∀ i, 0 ≤ m.getD i 0 ∧ m.getD i 0 ≤ 1048576) : ∀ z ∈ sumRow l m n, (Lit.int .i64 z).wf = true := by
  intro z hz
  simp only [sumRow, List.mem_map, List.mem_range] at hz
  obtain ⟨i, _, rfl⟩ := hz
  have := h1 i; have := h2 i
  exact int_wf (by unfold I64; omega)
/-- The first n rows of the sum. -/
def sumRows (a b : List (List Int)) (n : Nat) : List (List Int) := (List.range n).map fun r => sumRow (a.getD r []) (b.getD r []) 64
theorem sumRows_length (a b : List (List Int)) (n : Nat) : (sumRows a b n).length = n := by simp [sumRows]
theorem sumRows_0 (a b : List (List Int)) : sumRows a b 0 = [] := rfl
theorem sumRows_succ (a b : List (List Int)) (n : Nat) : sumRows a b (n + 1) = sumRows a b n ++ [sumRow (a.getD n []) (b.getD n []) 64] := by simp [sumRows, List.range_succ]
theorem sumRows_wf {a b : List (List Int)} {n : Nat} (ha : ∀ i, i < n → rowOk (a.getD i []) = true) (hb : ∀ i, i < n → rowOk (b.getD i []) = true) : ∀ l ∈ sumRows a b n, l.length ≤ 140737488351232 ∧ ∀ z ∈ l, (Lit.int .i64 z).wf = true := by
  intro l hl
  simp only [sumRows, List.mem_map, List.mem_range] at hl
  obtain ⟨r, hr, rfl⟩ := hl
  exact ⟨by rw [sumRow_length]; omega, sumRow_wf (rowOk_yes (ha r hr)).2.2 (rowOk_yes (hb r hr)).2.2⟩
attribute [irreducible] sumRow sumPart sumRows
/-- What Both answers. -/
def SktBothR (a b ls : List (List Int)) (c : Int) : Prop :=
  (sktOk a = false ∧ ls = [] ∧ c = 4) ∨ (sktOk a = true ∧ sktOk b = false ∧ ls = [] ∧ c = 4) ∨ (sktOk a = true ∧ sktOk b = true ∧ a.length ≠ b.length ∧ ls = [] ∧ c = 1) ∨
  (sktOk a = true ∧ sktOk b = true ∧ a.length = b.length ∧ ((sktOk (sumRows a b a.length) = true ∧ ls = sumRows a b a.length ∧ c = 0) ∨ (sktOk (sumRows a b a.length) = false ∧ ls = [] ∧ c = 4)))
theorem SktBothR.ex (a b : List (List Int)) : ∃ ls c, SktBothR a b ls c := by
  cases h1 : sktOk a
  · exact ⟨_, _, .inl ⟨h1, rfl, rfl⟩⟩
  cases h2 : sktOk b
  · exact ⟨_, _, .inr (.inl ⟨h1, h2, rfl, rfl⟩)⟩
  by_cases h3 : a.length = b.length
  · cases h4 : sktOk (sumRows a b a.length)
    · exact ⟨_, _, .inr (.inr (.inr ⟨h1, h2, h3, .inr ⟨h4, rfl, rfl⟩⟩))⟩
    · exact ⟨_, _, .inr (.inr (.inr ⟨h1, h2, h3, .inl ⟨h4, rfl, rfl⟩⟩))⟩
  · exact ⟨_, _, .inr (.inr (.inl ⟨h1, h2, h3, rfl, rfl⟩))⟩
end Go.Dam
namespace Go.Proofs.Ytjniiiimkejkiaa
open Go Go.RowKit Go.Dam
set_option linter.unusedVariables false
set_option maxRecDepth 100000 in
set_option maxHeartbeats 4000000 in
theorem refSktBoth_any (v u : Value) (a b ls : List (List Int)) (cc : Int) (w : World) (B : Nat) (hB : B ≤ w.heap.size) (h : IsRows w B v a) (h' : IsRows w B u b) (hR : SktBothR a b ls cc) :
    Calls Try.prog 21 #[v, u] w (GivesRows ls cc w) := by
  have HA := Lib.hid fun x (hx : sktOk a = x) W (hb : Below w.heap.size w W) => refSktMay_any v a x W B (h.below (hb.mono hB)) hx
  have HA' := Lib.hid fun x (hx : sktOk b = x) W (hb : Below w.heap.size w W) => refSktMay_any u b x W B (h'.below (hb.mono hB)) hx
  obtain ⟨A, c, vs, rfl, hc, hm, hn, hl, hr, hi⟩ := h
  obtain ⟨A', c', us, rfl, hc', hm', hn', hl', hr', hi'⟩ := h'
  rcases hR with ⟨h1, rfl, rfl⟩ | ⟨h1, h2, rfl, rfl⟩ | ⟨h1, h2, h3, rfl, rfl⟩ | ⟨h1, h2, h3, h4⟩
  · have HC := Lib.hid (HA.out _ h1)
    clear hl hr hi hl' hr' hi' h1
    go_enter Try.func21, Try.ntmps21
    go_wp2_with (go_at_call 47; refine (HC.out _ (Below.refl _ _)).mono ?_; rintro e w1 ⟨rfl, rfl⟩)
    go_ret2
    exact ⟨_, rfl, isRows_nil _ _, Below.refl _ _⟩
  · have HC := Lib.hid (HA.out _ h1)
    have HC' := Lib.hid (HA'.out _ h2)
    clear hl hr hi hl' hr' hi' h1 h2
    go_enter Try.func21, Try.ntmps21
    go_wp2_with (first
      | (go_at_call 47; (with_reducible refine (HC.out _ (Below.refl _ _)).mono ?_); rintro e w1 ⟨rfl, rfl⟩)
      | (go_at_call 47; (with_reducible refine (HC'.out _ (Below.refl _ _)).mono ?_); rintro e w1 ⟨rfl, rfl⟩))
    go_ret2
    exact ⟨_, rfl, isRows_nil _ _, Below.refl _ _⟩
  · have HC := Lib.hid (HA.out _ h1)
    have HC' := Lib.hid (HA'.out _ h2)
    have t0 : ((a.length : Int) != (b.length : Int)) = true := by simp; omega
    clear hl hr hi hl' hr' hi' h1 h2
    go_enter Try.func21, Try.ntmps21
    go_wp2_with (first
      | (go_at_call 47; (with_reducible refine (HC.out _ (Below.refl _ _)).mono ?_); rintro e w1 ⟨rfl, rfl⟩)
      | (go_at_call 47; (with_reducible refine (HC'.out _ (Below.refl _ _)).mono ?_); rintro e w1 ⟨rfl, rfl⟩))
    go_ret2
    exact ⟨_, rfl, isRows_nil _ _, Below.refl _ _⟩
  · have HC := Lib.hid (HA.out _ h1)
    have HC' := Lib.hid (HA'.out _ h2)
    obtain ⟨y1, y2, _, y3⟩ := sktOk_yes h1
    obtain ⟨_, _, _, z3⟩ := sktOk_yes h2
    have HY := Lib.hid y3
    have HZ := Lib.hid z3
    have HI := Lib.hid hi
    have HI' := Lib.hid hi'
    have HL := Lib.hid hl
    have HL' := Lib.hid hl'
    have H4 := Lib.hid h4
    have H3 := Lib.hid h3
    have t0 : ((a.length : Int) != (b.length : Int)) = false := by simp; omega
    clear hi hi' hl hl' h1 h2 y3 z3 h4 h3
    go_enter Try.func21, Try.ntmps21
    go_wp2_with (first
      | (go_at_call 47; (with_reducible refine (HC.out _ (Below.refl _ _)).mono ?_); rintro e w1 ⟨rfl, rfl⟩)
      | (go_at_call 47; (with_reducible refine (HC'.out _ (Below.refl _ _)).mono ?_); rintro e w1 ⟨rfl, rfl⟩))
    go_loopw [6, 25] (fun ov iv wr => ∃ r : Nat, ∃ os : List Value, r ≤ a.length ∧ iv = .int .i64 r ∧ os.length = r ∧ wr.ownsRow w.heap.size 22 1 ov r os ∧ OwnRows 3 wr w.heap.size os (sumRows a b r) ∧ Below w.heap.size w wr) (fun _ iv _ => a.length - (intOf iv).toNat)
    case atStart => exact ⟨0, [], by omega, rfl, rfl, World.ownsRow_nil _ _ _ _, by rw [sumRows_0]; exact OwnRows.nil _ _ _, Below.refl _ _⟩
    case round =>
      obtain ⟨wo, rfl⟩ : ∃ wo : World, wo = wr := ⟨_, rfl⟩
      obtain ⟨r, os, hrR, rfl, hos, hout, hrows, hbel⟩ := hrel
      obtain ⟨A1, c1, rfl⟩ := own_shape hout
      have HO := Lib.hid hout
      have HR := Lib.hid hrows
      have HB := Lib.hid hbel
      have hz := hbel.size
      by_cases hlt : r < a.length
      · obtain ⟨bk, off, rfl, hb, hcells⟩ := IsRows.cells (c := c) HL.out hr (by omega)
        obtain ⟨bk', off', rfl, hb', hcells'⟩ := IsRows.cells (c := c') HL'.out hr' (by have := H3.out; omega)
        have hltb : r < b.length := by have := H3.out; omega
        have hltb' : (r : Int) < (b.length : Int) := by omega
        have k0 := (hbel.cell (p := ⟨bk, off + r, none⟩) (by simp; omega)).trans (hcells r hlt)
        have k0' := (hbel.cell (p := ⟨bk', off' + r, none⟩) (by simp; omega)).trans (hcells' r (by have := H3.out; omega))
        have hrow := (HI.out r hlt).below (hbel.mono hB)
        have hrow' := (HI'.out r (by have := H3.out; omega)).below (hbel.mono hB)
        have o1 := rowOk_yes (HY.out r hlt)
        have o2 := rowOk_yes (HZ.out r (by have := H3.out; omega))
        generalize hx : vs.getD r undef = x at *
        generalize hy : us.getD r undef = y at *
        generalize hlr : a.getD r [] = l at *
        generalize hmr : b.getD r [] = m at *
        obtain ⟨Ax, cx, rfl, hcx, hmx, hrx⟩ := hrow.open_ o1.1
        obtain ⟨Ay, cy, rfl, hcy, hmy, hry⟩ := hrow'.open_ o2.1
        have HX := Lib.hid hlr
        have HYm := Lib.hid hmr
        have ob1 := Lib.hid o1.2.2
        have ob2 := Lib.hid o2.2.2
        obtain ⟨l1, _⟩ := o1
        obtain ⟨l2, _⟩ := o2
        obtain ⟨bx, ox, rfl, hbx, hcx2⟩ := ints_cells hrx (by omega)
        obtain ⟨by_, oy, rfl, hby, hcy2⟩ := ints_cells hry (by omega)
        clear hout hrows hbel hcells hcells' hrow hrow' hx hy hlr hmr hrx hry
        go_wp2_with fail
        go_loopw [8, 33] (fun ov iv wr => ∃ i : Nat, i ≤ 64 ∧ iv = .int .i64 i ∧ wr.ownsRow wo.heap.size 3 1 ov i ((sumRow l m i).map (Value.int .i64)) ∧ Below wo.heap.size wo wr) (fun _ iv _ => 64 - (intOf iv).toNat)
        case atStart => exact ⟨0, by omega, rfl, by rw [sumRow_0]; exact World.ownsRow_nil _ _ _ _, Below.refl _ _⟩
        case round =>
          obtain ⟨wi, rfl⟩ : ∃ wi : World, wi = wr := ⟨_, rfl⟩
          obtain ⟨i, hi, rfl, hown, hbi⟩ := hrel
          obtain ⟨A2, c2, rfl⟩ := own_shape hown
          have HO2 := Lib.hid hown
          have HB2 := Lib.hid hbi
          have hz2 := hbi.size
          by_cases hlt2 : i < 64
          · have q0 := (hbi.cell (p := ⟨bk, off + r, none⟩) (by simp; omega)).trans k0
            have q1 := (hbi.cell (p := ⟨bk', off' + r, none⟩) (by simp; omega)).trans k0'
            have q2 := (hbi.cell (p := ⟨bx, ox + i, none⟩) (by simp; omega)).trans (hcx2 i (by omega))
            have q3 := (hbi.cell (p := ⟨by_, oy + i, none⟩) (by simp; omega)).trans (hcy2 i (by omega))
            have b1 := ob1.out i
            have b2 := ob2.out i
            have HS := Lib.hid (sumRow_succ l m i)
            generalize l.getD i 0 = x at *
            generalize m.getD i 0 = y at *
            clear hown hbi hcx2 hcy2 k0 k0'
            go_wp2_with fail
            have wxy : IntKind.i64.wrap (x + y) = x + y := by rw [IntKind.wrap_i64]; omega
            go_region_law (refine step_pushD el_int rfl (.tmp 36) (.tmp 52) rfl wo.heap.size (.slice A2 i c2) i ((sumRow l m i).map (Value.int .i64)) ((show wi.drew.ownsRow _ _ _ _ _ _ from HO2.out).alloc _) (by simp [Act.eval, Act.put]) wi.heap.size 1 (.int .i64 (x + y)) (by simp [Act.eval, Act.put]) (by simp [wxy]) rfl (by omega) (by omega) (by simp; omega) ?_; intro v' w2 hown2 hg2 hl2)
            all_goals go_wp2_with fail
            all_goals refine ⟨⟨i + 1, by omega, by go_num, ?_, below_push (HB2.out.drew.alloc hz2 _) ((show wi.drew.ownsRow _ _ _ _ _ _ from HO2.out).alloc _) (Nat.le_refl _) (by simp; omega) hg2⟩, by simp [intOf]; omega⟩
            all_goals (rw [HS.out, List.map_append]; exact hown2)
          · obtain rfl : i = 64 := by omega
            clear hown hbi
            go_wp2_with (at_builtin; refine wpList_push el_rows rfl (.tmp 55) (.tmp 57) rfl w.heap.size _ r _ ((own_size HO.out HB2.out).alloc _) rfl wi.heap.size 1 _ rfl (by simp; rfl) rfl (by omega) (by omega) (by simp; omega) ?_; intro v' w2 hown2 hg2)
            have h1 := ((OwnRows.push (HR.out.size HB2.out) (u := .slice A2 64 c2) (l := sumRow l m 64) (by rw [sumRow_length]; exact own_base HO2.out hz)).alloc (.cells #[.slice A2 64 c2] 22)).grown ((own_size HO.out HB2.out).alloc _) (by decide) hg2
            refine ⟨⟨r + 1, os ++ [.slice A2 64 c2], by omega, by go_num, by simp [hos], hown2, by rw [sumRows_succ, HX.out, HYm.out]; exact h1, below_push ((HB.out.trans (HB2.out.mono hz)).alloc (by omega) _) ((own_size HO.out HB2.out).alloc _) (Nat.le_refl _) (by simp; omega) hg2⟩, by simp [intOf]; omega⟩
      · obtain rfl : r = a.length := by omega
        have hfin := rows_of_own hrows (by rw [sumRows_length]; exact hout) (by rw [sumRows_length]; omega) (sumRows_wf HY.out (fun i hi => HZ.out i (by have := H3.out; omega)))
        have HF := Lib.hid hfin
        have HM := Lib.hid fun x (hx : sktOk (sumRows a b a.length) = x) => refSktMay_any _ _ x wo _ hfin hx
        clear hout hrows hbel hfin
        rcases H4.out with ⟨h5, rfl, rfl⟩ | ⟨h5, rfl, rfl⟩
        · have HM := Lib.hid (HM.out _ h5)
          clear h5 H4
          go_wp2_with (go_at_call 47; refine (HM.out).mono ?_; rintro e w1 ⟨rfl, rfl⟩)
          go_ret2
          exact ⟨_, rfl, HF.out, HB.out⟩
        · have HM := Lib.hid (HM.out _ h5)
          clear h5 H4
          go_wp2_with (go_at_call 47; refine (HM.out).mono ?_; rintro e w1 ⟨rfl, rfl⟩)
          go_ret2
          exact ⟨_, rfl, isRows_nil _ _, HB.out⟩
set_option maxRecDepth 100000 in
set_option maxHeartbeats 4000000 in
theorem sktBoth_any (v u : Value) (a b ls : List (List Int)) (cc : Int) (w : World) (B : Nat) (hB : B ≤ w.heap.size) (h : IsRows w B v a) (h' : IsRows w B u b) (hR : SktBothR a b ls cc) :
    Calls Try.prog 20 #[v, u] w (GivesRows ls cc w) := by
  have HA := Lib.hid fun x (hx : sktOk a = x) W (hb : Below w.heap.size w W) => sktMay_any v a x W B (h.below (hb.mono hB)) hx
  have HA' := Lib.hid fun x (hx : sktOk b = x) W (hb : Below w.heap.size w W) => sktMay_any u b x W B (h'.below (hb.mono hB)) hx
  obtain ⟨A, c, vs, rfl, hc, hm, hn, hl, hr, hi⟩ := h
  obtain ⟨A', c', us, rfl, hc', hm', hn', hl', hr', hi'⟩ := h'
  rcases hR with ⟨h1, rfl, rfl⟩ | ⟨h1, h2, rfl, rfl⟩ | ⟨h1, h2, h3, rfl, rfl⟩ | ⟨h1, h2, h3, h4⟩
  · have HC := Lib.hid (HA.out _ h1)
    clear hl hr hi hl' hr' hi' h1
    go_enter Try.func20, Try.ntmps20
    go_wp2_with (go_at_call 46; refine (HC.out _ (Below.refl _ _)).mono ?_; rintro e w1 ⟨rfl, rfl⟩)
    go_ret2
    exact ⟨_, rfl, isRows_nil _ _, Below.refl _ _⟩
  · have HC := Lib.hid (HA.out _ h1)
    have HC' := Lib.hid (HA'.out _ h2)
    clear hl hr hi hl' hr' hi' h1 h2
    go_enter Try.func20, Try.ntmps20
    go_wp2_with (first
      | (go_at_call 46; (with_reducible refine (HC.out _ (Below.refl _ _)).mono ?_); rintro e w1 ⟨rfl, rfl⟩)
      | (go_at_call 46; (with_reducible refine (HC'.out _ (Below.refl _ _)).mono ?_); rintro e w1 ⟨rfl, rfl⟩))
    go_ret2
    exact ⟨_, rfl, isRows_nil _ _, Below.refl _ _⟩
  · have HC := Lib.hid (HA.out _ h1)
    have HC' := Lib.hid (HA'.out _ h2)
    have t0 : ((a.length : Int) != (b.length : Int)) = true := by simp; omega
    clear hl hr hi hl' hr' hi' h1 h2
    go_enter Try.func20, Try.ntmps20
    go_wp2_with (first
      | (go_at_call 46; (with_reducible refine (HC.out _ (Below.refl _ _)).mono ?_); rintro e w1 ⟨rfl, rfl⟩)
      | (go_at_call 46; (with_reducible refine (HC'.out _ (Below.refl _ _)).mono ?_); rintro e w1 ⟨rfl, rfl⟩))
    go_ret2
    exact ⟨_, rfl, isRows_nil _ _, Below.refl _ _⟩
  · have HC := Lib.hid (HA.out _ h1)
    have HC' := Lib.hid (HA'.out _ h2)
    obtain ⟨y1, y2, _, y3⟩ := sktOk_yes h1
    obtain ⟨_, _, _, z3⟩ := sktOk_yes h2
    have HY := Lib.hid y3
    have HZ := Lib.hid z3
    have HI := Lib.hid hi
    have HI' := Lib.hid hi'
    have HL := Lib.hid hl
    have HL' := Lib.hid hl'
    have H4 := Lib.hid h4
    have H3 := Lib.hid h3
    have t0 : ((a.length : Int) != (b.length : Int)) = false := by simp; omega
    clear hi hi' hl hl' h1 h2 y3 z3 h4 h3
    go_enter Try.func20, Try.ntmps20
    go_wp2_with (first
      | (go_at_call 46; (with_reducible refine (HC.out _ (Below.refl _ _)).mono ?_); rintro e w1 ⟨rfl, rfl⟩)
      | (go_at_call 46; (with_reducible refine (HC'.out _ (Below.refl _ _)).mono ?_); rintro e w1 ⟨rfl, rfl⟩))
    go_loopw [6, 29] (fun ov iv wr => ∃ r : Nat, ∃ os : List Value, r ≤ a.length ∧ iv = .int .i64 r ∧ os.length = r ∧ wr.ownsRow w.heap.size 22 1 ov r os ∧ OwnRows 3 wr w.heap.size os (sumRows a b r) ∧ Below w.heap.size w wr) (fun _ iv _ => a.length - (intOf iv).toNat)
    case atStart => exact ⟨0, [], by omega, rfl, rfl, World.ownsRow_nil _ _ _ _, by rw [sumRows_0]; exact OwnRows.nil _ _ _, Below.refl _ _⟩
    case round =>
      obtain ⟨wo, rfl⟩ : ∃ wo : World, wo = wr := ⟨_, rfl⟩
      obtain ⟨r, os, hrR, rfl, hos, hout, hrows, hbel⟩ := hrel
      obtain ⟨A1, c1, rfl⟩ := own_shape hout
      have HO := Lib.hid hout
      have HR := Lib.hid hrows
      have HB := Lib.hid hbel
      have hz := hbel.size
      by_cases hlt : r < a.length
      · obtain ⟨bk, off, rfl, hb, hcells⟩ := IsRows.cells (c := c) HL.out hr (by omega)
        obtain ⟨bk', off', rfl, hb', hcells'⟩ := IsRows.cells (c := c') HL'.out hr' (by have := H3.out; omega)
        have hltb : r < b.length := by have := H3.out; omega
        have hltb' : (r : Int) < (b.length : Int) := by omega
        have k0 := (hbel.cell (p := ⟨bk, off + r, none⟩) (by simp; omega)).trans (hcells r hlt)
        have k0' := (hbel.cell (p := ⟨bk', off' + r, none⟩) (by simp; omega)).trans (hcells' r (by have := H3.out; omega))
        have hrow := (HI.out r hlt).below (hbel.mono hB)
        have hrow' := (HI'.out r (by have := H3.out; omega)).below (hbel.mono hB)
        have o1 := rowOk_yes (HY.out r hlt)
        have o2 := rowOk_yes (HZ.out r (by have := H3.out; omega))
        generalize hx : vs.getD r undef = x at *
        generalize hy : us.getD r undef = y at *
        generalize hlr : a.getD r [] = l at *
        generalize hmr : b.getD r [] = m at *
        have hrow0 := hrow
        obtain ⟨Ax, cx, rfl, hcx, hmx, hrx⟩ := hrow.open_ o1.1
        obtain ⟨Ay, cy, rfl, hcy, hmy, hry⟩ := hrow'.open_ o2.1
        have HX := Lib.hid hlr
        have HYm := Lib.hid hmr
        have ob1 := Lib.hid o1.2.2
        have ob2 := Lib.hid o2.2.2
        obtain ⟨l1, _⟩ := o1
        obtain ⟨l2, _⟩ := o2
        obtain ⟨bx, ox, rfl, hbx, hcx2⟩ := ints_cells hrx (by omega)
        obtain ⟨by_, oy, rfl, hby, hcy2⟩ := ints_cells hry (by omega)
        clear hout hrows hbel hcells hcells' hrow hrow' hx hy hlr hmr hrx hry
        have hIx : IsInts .i64 wo B (.slice (some ⟨bx, ox, none⟩) 64 cx) l := hrow0
        have HCl := Lib.hid (cloneInts_any _ l wo B (by omega) hIx (by omega))
        clear hrow0 hIx
        go_wp2_with (go_at_call 48; refine (HCl.out).mono ?_; rintro e w1 ⟨sv, rfl, hown1, hb1⟩; obtain ⟨As, cs, rfl⟩ := own_shape hown1; have q9 := (hb1.cell (p := ⟨bk', off' + r, none⟩) (by simp; omega)).trans k0')
        rw [l1] at hown1
        have hz1 := hb1.size
        go_loopw [41] (fun iv wr => ∃ i : Nat, i ≤ 64 ∧ iv = .int .i64 i ∧ wr.ownsRow wo.heap.size 3 1 (.slice As 64 cs) 64 ((sumPart l m i).map (Value.int .i64)) ∧ Below wo.heap.size wo wr) (fun iv _ => 64 - (intOf iv).toNat)
        case atStart => exact ⟨0, by omega, rfl, by rw [sumPart_0]; exact hown1, hb1⟩
        case round =>
          clear hown1 hb1
          obtain ⟨wi, rfl⟩ : ∃ wi : World, wi = wr := ⟨_, rfl⟩
          obtain ⟨i, hi, rfl, hown, hbi⟩ := hrel
          have HO2 := Lib.hid hown
          have HB2 := Lib.hid hbi
          have hz2 := hbi.size
          by_cases hlt2 : i < 64
          · have q3 := (hbi.cell (p := ⟨by_, oy + i, none⟩) (by simp; omega)).trans (hcy2 i (by omega))
            obtain ⟨g, cap, hf, hgB, hgl⟩ := hown.form (by omega)
            obtain ⟨rfl, rfl⟩ : As = some ⟨g, 0, none⟩ ∧ cs = cap := by injection hf with a b c; exact ⟨a, c⟩
            have b1 := ob1.out i
            have b2 := ob2.out i
            have k3 : wi.cell? ⟨g, i, none⟩ = some (.int .i64 (l.getD i 0)) := by
              rw [hown.cellAt i (by omega), ← sumPart_at (l := l) (m := m) (i := i) (by omega)]
              have hi2 : i < (sumPart l m i).length := by rw [sumPart_length]; omega
              simp [hi2]
            have f3 := hown.frozenAt i
            have HS := (hown.stored i (.int .i64 (l.getD i 0 + m.getD i 0))).1
            rw [← List.map_set, sumPart_set (by omega)] at HS
            have HS := Lib.hid HS
            generalize l.getD i 0 = x at *
            generalize m.getD i 0 = y at *
            clear hown hbi hcx2 hcy2 k0 k0' hf
            go_wp2_with fail
            go_roundw
            case rel => exact ⟨i + 1, by omega, by go_num, HS.out, HB2.out.setCell (p := ⟨g, i, none⟩) hgB _⟩
            case measure => simp [intOf]; omega
          · obtain rfl : i = 64 := by omega
            rw [sumPart_end l1] at hown
            have HO2 := Lib.hid hown
            clear hown hbi
            go_wp2_with (at_builtin; refine wpList_push el_rows rfl (.tmp 54) (.tmp 56) rfl w.heap.size _ r _ ((own_size HO.out HB2.out).alloc _) rfl wi.heap.size 1 _ rfl (by simp; rfl) rfl (by omega) (by omega) (by simp; omega) ?_; intro v' w2 hown2 hg2)
            have h1 := ((OwnRows.push (HR.out.size HB2.out) (u := .slice As 64 cs) (l := sumRow l m 64) (by rw [sumRow_length]; exact own_base HO2.out hz)).alloc (.cells #[.slice As 64 cs] 22)).grown ((own_size HO.out HB2.out).alloc _) (by decide) hg2
            refine ⟨⟨r + 1, os ++ [.slice As 64 cs], by omega, by go_num, by simp [hos], hown2, by rw [sumRows_succ, HX.out, HYm.out]; exact h1, below_push ((HB.out.trans (HB2.out.mono hz)).alloc (by omega) _) ((own_size HO.out HB2.out).alloc _) (Nat.le_refl _) (by simp; omega) hg2⟩, by simp [intOf]; omega⟩
      · obtain rfl : r = a.length := by omega
        have hfin := rows_of_own hrows (by rw [sumRows_length]; exact hout) (by rw [sumRows_length]; omega) (sumRows_wf HY.out (fun i hi => HZ.out i (by have := H3.out; omega)))
        have HF := Lib.hid hfin
        have HM := Lib.hid fun x (hx : sktOk (sumRows a b a.length) = x) => sktMay_any _ _ x wo _ hfin hx
        clear hout hrows hbel hfin
        rcases H4.out with ⟨h5, rfl, rfl⟩ | ⟨h5, rfl, rfl⟩
        · have HM := Lib.hid (HM.out _ h5)
          clear h5 H4
          go_wp2_with (go_at_call 46; refine (HM.out).mono ?_; rintro e w1 ⟨rfl, rfl⟩)
          go_ret2
          exact ⟨_, rfl, HF.out, HB.out⟩
        · have HM := Lib.hid (HM.out _ h5)
          clear h5 H4
          go_wp2_with (go_at_call 46; refine (HM.out).mono ?_; rintro e w1 ⟨rfl, rfl⟩)
          go_ret2
          exact ⟨_, rfl, isRows_nil _ _, HB.out⟩
set_option maxHeartbeats 400000 in
theorem sktBoths_walk (v u : Value) (w : World) (h : ∃ ls, IsRows w w.heap.size v ls) (h' : ∃ ls, IsRows w w.heap.size u ls) :
    Calls Try.prog 5 #[v, u] w fun e w' => e = .returned (.bool true) ∧ Below w.heap.size w w' := by
  obtain ⟨a, h⟩ := h
  obtain ⟨b, h'⟩ := h'
  obtain ⟨r, cc, hR⟩ := SktBothR.ex a b
  have H1 := Lib.hid (sktBoth_any v u a b r cc w _ (Nat.le_refl _) h h' hR)
  have H2 := Lib.hid fun W (hb : Below w.heap.size w W) => refSktBoth_any v u a b r cc W _ hb.size (h.below hb) (h'.below hb) hR
  obtain ⟨A, c, vs, rfl, hc, hm, hn, hl, hr, hi⟩ := h
  obtain ⟨A', c', us, rfl, hc', hm', hn', hl', hr', hi'⟩ := h'
  clear hl hr hi hl' hr' hi' hR
  go_enter Try.func5, Try.ntmps5
  go_wp2_with (first
    | (go_at_call 20; refine (H1.out).mono ?_; rintro e w1 ⟨v1, rfl, hi1, hb1⟩)
    | (go_at_call 21; refine (H2.out _ hb1).mono ?_; rintro e w2 ⟨v2, rfl, hi2, hb2⟩)
    | (go_at_call 17; refine (sameRows_any v1 v2 r _ _ ((hi1.below hb2).more hb2.size) hi2).mono ?_; rintro e w3 ⟨rfl, hd⟩))
  go_ret
  exact ⟨ret_bool (by simp), (hb1.trans (hb2.mono hb1.size)).trans (hd.below _)⟩
end Go.Proofs.Ytjniiiimkejkiaa
