/-
  Texts of one claim behind each other. Conditions: none of its own.
-/
import Derived.Test.YthiccmncdmohbaaGreatMGridTops13
import Derived.Test.YthiccmncdmohbaaGreatMGridTops17
import Derived.Test.YthiccmncdmohbaaGreatMGridTops06
import Derived.Test.YthiccmncdmohbaaGreatMGridTops16
set_option linter.unusedVariables false
set_option linter.unusedSimpArgs false
/-
  Plain laws for package grid's index: the comparison is a strict order, and what a store into a block of slices leaves as it was. Conditions: none; nothing here names the program.
-/
namespace Go.Dam
open Go Go.RowKit Go.Sort
set_option linter.unusedVariables false
theorem cmp_neg (x y : Int) : Lib.compareInt x y < 0 ↔ x < y := by
  unfold Lib.compareInt
  by_cases h1 : x < y
  · simp [h1]
  · by_cases h2 : y < x <;> simp [h1, h2]
theorem cmp_zero (x y : Int) : Lib.compareInt x y = 0 ↔ x = y := by
  unfold Lib.compareInt
  by_cases h1 : x < y
  · simp [h1]; omega
  · by_cases h2 : y < x
    · simp [h1, h2]; omega
    · simp [h1, h2]; omega
theorem or3_neg (a b c d e f : Int) : or3 (Lib.compareInt a b) (Lib.compareInt c d) (Lib.compareInt e f) < 0 ↔ a < b ∨ (a = b ∧ (c < d ∨ (c = d ∧ e < f))) := by
  unfold or3
  by_cases h1 : a = b
  · rw [if_neg (by simp [cmp_zero, h1])]
    by_cases h2 : c = d
    · rw [if_neg (by simp [cmp_zero, h2]), cmp_neg]; omega
    · rw [if_pos (by simp [cmp_zero, h2]), cmp_neg]; omega
  · rw [if_pos (by simp [cmp_zero, h1]), cmp_neg]; omega
/-- Points by X, Y and place. -/
def cmpXY (l : List Int) (x y : Int) : Int := or3 (Lib.compareInt (l.getD (x.toNat * 3) 0) (l.getD (y.toNat * 3) 0)) (Lib.compareInt (l.getD (x.toNat * 3 + 1) 0) (l.getD (y.toNat * 3 + 1) 0)) (Lib.compareInt x y)
theorem swo_xy {α : Type} (k : α → Int) (l : List Int) : SWO (fun x y : α => decide (cmpXY l (k x) (k y) < 0)) where
  irrefl x := by rw [decide_eq_false]; unfold cmpXY; rw [or3_neg]; omega
  trans x y z h1 h2 := by
    have h1 := of_decide_eq_true h1
    have h2 := of_decide_eq_true h2
    unfold cmpXY at *
    rw [or3_neg] at h1 h2
    exact decide_eq_true (by rw [or3_neg]; omega)
  ntrans x y z h1 h2 := by
    have h1 := of_decide_eq_false h1
    have h2 := of_decide_eq_false h2
    unfold cmpXY at *
    rw [or3_neg] at h1 h2
    exact decide_eq_false (by rw [or3_neg]; omega)
/-- The cells of a block are all slices. -/
def AllSl (cs : Array Value) : Prop := ∀ (i : Nat) (u : Value), cs[i]? = some u → ∃ A n c, u = Value.slice A n c
section
variable {w : World} {B : Nat} {v : Value} {p : Addr} {t : TypeId} {cs : Array Value}
theorem sl_ne (hb : Blk w p.block t cs) (hs : AllSl cs) {b o : Nat} {k : IntKind} {z : Int} (hc : w.cell? ⟨b, o, none⟩ = some (.int k z)) : b ≠ p.block := by
  rintro rfl
  obtain ⟨A, n, c, e⟩ := hs o _ ((hb.cell o).symm.trans hc)
  cases e
theorem set_far {b o : Nat} (hb : b ≠ p.block) (x : Value) : (w.setCell p x).cell? ⟨b, o, none⟩ = w.cell? ⟨b, o, none⟩ :=
  World.cell?_setCell_other _ _ _ _ (fun e => hb (by rw [e]))
theorem ints_sl {k : IntKind} {l : List Int} (h : IsInts k w B v l) (hb : Blk w p.block t cs) (hs : AllSl cs) (x : Value) : IsInts k (w.setCell p x) B v l := by
  obtain ⟨A, c, rfl, h1, h2, h5, h3, h4⟩ := h
  refine ⟨A, c, rfl, h1, h2, h5, ⟨h3.1, fun hn => ?_⟩, h4⟩
  obtain ⟨b, off, rfl, hbl, hc⟩ := ints_cells h3 hn
  refine ⟨_, rfl, hbl, fun j u hu => ?_⟩
  obtain ⟨ad, e, _, hc'⟩ := h3.2 hn
  injection e with e
  subst e
  have h6 := hc' j u hu
  obtain ⟨z, _, rfl⟩ : ∃ z, z ∈ l ∧ Value.int k z = u := by
    have := List.mem_of_getElem? hu
    obtain ⟨z, hz, e⟩ := List.mem_map.1 this
    exact ⟨z, hz, e⟩
  have e : (⟨b, off, none⟩ : Addr).add j = ⟨b, off + j, none⟩ := by unfold Addr.add; split <;> simp_all
  rw [e] at h6 ⊢
  exact (set_far (sl_ne hb hs h6) x).trans h6
theorem words_sl {l : List Nat} (h : IsWords w B v l) (hb : Blk w p.block t cs) (hs : AllSl cs) (x : Value) : IsWords (w.setCell p x) B v l := by
  obtain ⟨A, c, rfl, h1, h2, h5, h3, h4⟩ := h
  refine ⟨A, c, rfl, h1, h2, h5, ⟨h3.1, fun hn => ?_⟩, h4⟩
  obtain ⟨b, off, rfl, hbl, hc⟩ := h3.addr hn
  refine ⟨_, rfl, hbl, fun j u hu => ?_⟩
  obtain ⟨z, _, rfl⟩ : ∃ z, z ∈ l ∧ wordV z = u := List.mem_map.1 (List.mem_of_getElem? hu)
  obtain ⟨u', e1, h6⟩ := hc j (by have := (List.getElem?_eq_some_iff.1 hu).1; simpa using this)
  rw [hu] at e1
  obtain rfl : wordV z = u' := by injection e1
  have e : (⟨b, off, none⟩ : Addr).add j = ⟨b, off + j, none⟩ := by unfold Addr.add; split <;> simp_all
  rw [e]
  exact (set_far (sl_ne hb hs h6) x).trans h6
theorem rows_sl {rs : List (Int × List Nat)} (h : IsRowsB w B v rs) (hb : Blk w p.block t cs) (hs : AllSl cs) (x : Value) : IsRowsB (w.setCell p x) B v rs := by
  obtain ⟨A, c, vs, rfl, h1, h2, h5, h3, h4⟩ := h
  refine ⟨A, c, vs, rfl, h1, h2, h5, ⟨h3.1, fun hn => ?_⟩, fun i hi => ?_⟩
  · obtain ⟨_, b, off, rfl, hbl, _⟩ := rows_at ⟨A, c, vs, rfl, h1, h2, h5, h3, h4⟩ hn
    obtain ⟨ad, ea, _, hc⟩ := h3.2 hn
    injection ea with ea
    subst ea
    refine ⟨_, rfl, hbl, fun j u hu => ?_⟩
    have e : ∀ j, (⟨b, off, none⟩ : Addr).add j = ⟨b, off + j, none⟩ := fun j => by unfold Addr.add; split <;> simp_all
    have hj : j < rs.length * 2 := by have := h3.1; have := (List.getElem?_eq_some_iff.1 hu).1; omega
    obtain ⟨s, e1, _, _⟩ := h4 (j / 2) (by omega)
    injection e1 with e1
    have e2 : vs.getD (j / 2 * 2) undef = .int .i64 (rs.getD (j / 2) (0, [])).1 := by have := congrArg (fun q => q[0]!) e1; simpa using this
    have h7 := hc (j / 2 * 2) _ (by rw [List.getElem?_eq_getElem (by have := h3.1; omega)])
    have h8 := hc j u hu
    rw [List.getD_eq_getElem?_getD, List.getElem?_eq_getElem (by have := h3.1; omega)] at e2
    simp only [Option.getD_some] at e2
    rw [e2] at h7
    rw [e] at h7 h8 ⊢
    exact (set_far (sl_ne hb hs h7) x).trans h8
  · obtain ⟨s, e1, e2, e3⟩ := h4 i hi
    exact ⟨s, e1, e2, words_sl e3 hb hs x⟩
end
theorem natL_wf {r : List Nat} {n : Nat} {p : Nat → Bool} (h : ∀ u, u < n → r.getD u 0 < n) (hl : r.length = n) (hn : n ≤ 1000000) {z : Int} (hz : z ∈ natL (r.filter p)) : (Lit.int .i64 z).wf = true := by
  unfold natL at hz
  obtain ⟨i, hi, rfl⟩ := List.mem_map.1 hz
  obtain ⟨u, hu, rfl⟩ := List.mem_iff_getElem.1 (List.mem_filter.1 hi).1
  have := h u (by omega)
  rw [ge_at r hu] at this
  exact WalkArith.wf_i64 (by omega)
theorem natL_app (a : List Nat) (x : Nat) : (natL (a ++ [x])).map (Value.int .i64) = (natL a).map (Value.int .i64) ++ [.int .i64 (x : Int)] := by unfold natL; simp
end Go.Dam

/-
  Rows of words of the call's own that a row of structs holds: how they are kept while other rows grow, and what they read as. Conditions: none; nothing here names the program.
-/
namespace Go.Dam
open Go Go.RowKit
set_option linter.unusedVariables false
/-- Each of these slices is a row of words of the call's own. -/
def OwnWs (U : TypeId) (w : World) (base : Nat) (ss : List Value) (wss : List (List Nat)) : Prop :=
  ss.length = wss.length ∧ ∀ i, i < wss.length → w.ownsRow base U 1 (ss.getD i undef) (wss.getD i []).length ((wss.getD i []).map wordV) ∧ (∀ z ∈ wss.getD i [], z < 18446744073709551616) ∧ (wss.getD i []).length ≤ 1000
section
variable {U : TypeId} {w w' : World} {base : Nat} {ss : List Value} {wss : List (List Nat)}
theorem OwnWs.nil (U : TypeId) (w : World) (base : Nat) : OwnWs U w base [] [] := ⟨rfl, fun i h => absurd h (by simp)⟩
theorem OwnWs.keep (h : OwnWs U w base ss wss) (hk : ∀ v n xs, w.ownsRow base U 1 v n xs → w'.ownsRow base U 1 v n xs) : OwnWs U w' base ss wss :=
  ⟨h.1, fun i hi => ⟨hk _ _ _ (h.2 i hi).1, (h.2 i hi).2⟩⟩
theorem OwnWs.alloc (h : OwnWs U w base ss wss) (o : Obj) : OwnWs U (w.alloc o) base ss wss := h.keep fun v n xs k => k.alloc o
theorem OwnWs.drewN (h : OwnWs U w base ss wss) (n : Nat) : OwnWs U (w.drewN n) base ss wss := h.keep fun v n xs k => k
theorem OwnWs.below (h : OwnWs U w base ss wss) (hb : Below w.heap.size w w') : OwnWs U w' base ss wss := h.keep fun v n xs k => own_size k hb
theorem OwnWs.grown {base' size n : Nat} {to : TypeId} {v : Value} {xs : List Value} (h : OwnWs U w base ss wss) (ho : w.ownsRow base' to size v n xs) (hne : to ≠ U) (hg : w.grownBy w' v.ownBlock) : OwnWs U w' base ss wss :=
  h.keep fun u m ys k => (own_apart ho k hne).kept hg k
theorem own_far {base size n : Nat} {to e : TypeId} {v : Value} {xs : List Value} {cs : Array Value} {p : Addr} (h : w.ownsRow base e size v n xs) (hp : Blk w p.block to cs) (hne : to ≠ e) (x : Value) : (w.setCell p x).ownsRow base e size v n xs := by
  rcases h.2 with ⟨rfl, rfl⟩ | ⟨g, cap, cur, rfl, h1, h2, rest⟩
  · exact ⟨h.1, .inl ⟨rfl, rfl⟩⟩
  · refine ⟨h.1, .inr ⟨g, cap, cur, rfl, h1, ?_, rest⟩⟩
    have hg : g ≠ p.block := by
      rintro rfl
      unfold Blk at hp
      rw [h2] at hp
      injection hp with hp
      injection hp with _ ht
      exact hne ht.symm
    exact (Below.heap_setCell w p x g hg).trans h2
theorem OwnWs.far {to : TypeId} {cs : Array Value} {p : Addr} (h : OwnWs U w base ss wss) (hp : Blk w p.block to cs) (hne : to ≠ U) (x : Value) : OwnWs U (w.setCell p x) base ss wss := h.keep fun v n xs k => own_far k hp hne x
theorem getS_old {α : Type} (l : List α) (x d : α) {i : Nat} (h : i < l.length) : (l ++ [x]).getD i d = l.getD i d := by
  rw [List.getD_eq_getElem?_getD, List.getElem?_append_left h, ← List.getD_eq_getElem?_getD]
theorem getS_new {α : Type} (l : List α) (x d : α) {i : Nat} (h : i = l.length) : (l ++ [x]).getD i d = x := by
  subst h
  rw [List.getD_eq_getElem?_getD, List.getElem?_append_right (Nat.le_refl _), Nat.sub_self]; rfl
theorem OwnWs.push {s : Value} {ws : List Nat} (h : OwnWs U w base ss wss) (ho : w.ownsRow base U 1 s ws.length (ws.map wordV)) (hw : ∀ z ∈ ws, z < 18446744073709551616) (hl : ws.length ≤ 1000) : OwnWs U w base (ss ++ [s]) (wss ++ [ws]) := by
  refine ⟨by simp [h.1], fun i hi => ?_⟩
  rw [List.length_append, List.length_singleton] at hi
  rcases Nat.lt_or_ge i wss.length with g | g
  · rw [getS_old wss ws [] g, getS_old ss s undef (by rw [h.1]; exact g)]; exact h.2 i g
  · rw [getS_new wss ws [] (by omega), getS_new ss s undef (by rw [h.1]; omega)]; exact ⟨ho, hw, hl⟩
end
/-- The cells of rows of bits. -/
def lvCells (n : Int) : List Value → List Value
  | [] => []
  | s :: ss => .int .i64 n :: s :: lvCells n ss
theorem lvCells_nil (n : Int) : lvCells n [] = [] := rfl
theorem lvCells_len (n : Int) : ∀ ss, (lvCells n ss).length = ss.length * 2
  | [] => rfl
  | s :: ss => by rw [lvCells, List.length_cons, List.length_cons, lvCells_len n ss, List.length_cons]; omega
theorem lvCells_snoc (n : Int) (s : Value) : ∀ ss, lvCells n (ss ++ [s]) = lvCells n ss ++ [.int .i64 n, s]
  | [] => rfl
  | x :: ss => by rw [List.cons_append, lvCells, lvCells_snoc n s ss]; rfl
theorem lvCells_at (n : Int) : ∀ (ss : List Value) (i : Nat), i < ss.length → (lvCells n ss).getD (i * 2) undef = .int .i64 n ∧ (lvCells n ss).getD (i * 2 + 1) undef = ss.getD i undef
  | s :: ss, 0, _ => ⟨rfl, rfl⟩
  | s :: ss, i + 1, h => by
    have := lvCells_at n ss i (by simpa using h)
    rw [show (i + 1) * 2 = i * 2 + 1 + 1 from by omega, lvCells]
    simpa using this
attribute [irreducible] lvCells
/-- What the rows read as. -/
theorem rowsB_own {U E : TypeId} {w : World} {base base' k : Nat} {n : Int} {v : Value} {ss : List Value} {wss : List (List Nat)} (hn : I64 n) (hr : w.ownsRow base' E 2 v k (lvCells n ss)) (hk : wss.length = k) (hl : k ≤ 1000) (h : OwnWs U w base ss wss) : IsRowsB w w.heap.size v (wss.map fun ws => (n, ws)) := by
  subst hk
  have hat : ∀ i, i < (wss.map fun ws => (n, ws)).length → IsBits w w.heap.size (.agg #[(lvCells n ss).getD (i * 2) undef, (lvCells n ss).getD (i * 2 + 1) undef]) ((wss.map fun ws => (n, ws)).getD i (0, [])).1 ((wss.map fun ws => (n, ws)).getD i (0, [])).2 := fun i hi => by
    have hi' : i < wss.length := by simpa using hi
    obtain ⟨e1, e2⟩ := lvCells_at n ss i (by rw [h.1]; exact hi')
    have e3 : (wss.map fun ws => (n, ws)).getD i (0, []) = (n, wss.getD i []) := by
      rw [List.getD_eq_getElem?_getD, List.getElem?_map, List.getElem?_eq_getElem hi', List.getD_eq_getElem?_getD, List.getElem?_eq_getElem hi']; rfl
    rw [e1, e2, e3]
    obtain ⟨k1, k2, k3⟩ := h.2 i hi'
    exact ⟨_, rfl, hn, own_words k1 (show (wss.getD i []).length ≤ 140737488351232 by omega) k2⟩
  rcases hr.2 with ⟨rfl, h0⟩ | ⟨g, cap, cur, rfl, _, _, hnc, hcm, _⟩
  · exact ⟨none, 0, _, by rw [List.length_map, h0], by rw [List.length_map]; omega, by omega, by rw [List.length_map]; omega, ⟨by rw [List.length_map]; exact hr.1, fun hp => absurd hp (by rw [List.length_map]; omega)⟩, hat⟩
  · exact ⟨_, cap, _, by rw [List.length_map], by rw [List.length_map]; exact hnc, hcm, by rw [List.length_map]; omega, by rw [List.length_map]; exact Reads.of_own hr, hat⟩
end Go.Dam
