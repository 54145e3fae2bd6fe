/-
  The plain law of the sky: what the sweep from the right keeps, and what the reference keeps, are the same places. Conditions: none; nothing here names the program.
-/
import Derived.Test.YtlojecajonhmhaaDoorMSkySkies19
import Derived.Test.YtlojecajonhmhaaDoorMSkySkies32
set_option linter.unusedVariables false
set_option linter.unusedSimpArgs false
namespace Go.Dam.Sky
open Go Go.RowKit Go.Dam Go.Dam.Stable
set_option linter.unusedVariables false
theorem OrdSky.len {l : List Int} {n : Nat} {o : List Nat} (h : OrdSky l n o) : o.length = n := by have := h.1.1.length_eq; simpa using this
theorem ge_at (o : List Nat) {u : Nat} (hu : u < o.length) : o.getD u 0 = o[u] := by rw [List.getD_eq_getElem?_getD, List.getElem?_eq_getElem hu]; rfl
theorem tagL_snocS {β : Type} (l : List β) (x : β) : tagL (l ++ [x]) = tagL l ++ [(l.length, x)] := by
  unfold tagL; rw [List.zipIdx_append, List.map_append]; simp
theorem tagL_rangeS : ∀ n, tagL (natL (List.range n)) = (List.range n).map fun i : Nat => (i, (i : Int))
  | 0 => rfl
  | n + 1 => by
    rw [natL_range, tagL_snocS, tagL_rangeS n, natL_len, List.length_range, List.range_succ, List.map_append]; rfl
/-- The order is what a stable sort leaves. -/
theorem OrdSky.stab {l : List Int} {n : Nat} {o : List Nat} (h : OrdSky l n o) : StabR (ltPS l) (natL (List.range n)) (natL o) := by
  refine ⟨o.map fun i : Nat => (i, (i : Int)), ?_, ?_, ?_⟩
  · rw [tagL_rangeS]; exact h.1.1.map _
  · have hl := h.len
    have h1 : o.Pairwise fun a b => (pX l a < pX l b ∨ (pX l a = pX l b ∧ pY l a ≤ pY l b)) ∧ (pX l a = pX l b → pY l a = pY l b → a < b) := by
      rw [List.pairwise_iff_getElem]
      intro u v hu hv huv
      have a := h.1.2 u v huv (by omega)
      have b := h.2 u v huv (by omega)
      rw [ge_at o hu, ge_at o hv] at a b
      exact ⟨a, b⟩
    refine List.Pairwise.map _ (R := fun a b : Nat => TagT (ltPS l) (a, (a : Int)) (b, (b : Int))) (fun a b hab => hab) ?_
    refine List.Pairwise.imp ?_ h1
    rintro a b ⟨g1, g2⟩
    unfold TagT ltPS ltS
    simp only [Int.toNat_natCast]
    unfold pX pY at g1 g2
    by_cases c1 : l.getD (a * 3) 0 < l.getD (b * 3) 0 ∨ (l.getD (a * 3) 0 = l.getD (b * 3) 0 ∧ l.getD (a * 3 + 1) 0 < l.getD (b * 3 + 1) 0)
    · left; rw [Bool.or_eq_true, Bool.and_eq_true, decide_eq_true_eq, decide_eq_true_eq, decide_eq_true_eq]; exact c1
    · right
      refine ⟨?_, ?_, by omega⟩
      · rw [Bool.or_eq_false_iff, Bool.and_eq_false_iff, decide_eq_false_iff_not, decide_eq_false_iff_not, decide_eq_false_iff_not]; omega
      · rw [Bool.or_eq_false_iff, Bool.and_eq_false_iff, decide_eq_false_iff_not, decide_eq_false_iff_not, decide_eq_false_iff_not]; omega
  · unfold natL; rw [List.map_map]; rfl
theorem natL_inj {a b : List Nat} (h : natL a = natL b) : a = b := by
  have := congrArg (List.map Int.toNat) h
  unfold natL at this
  rw [List.map_map, List.map_map] at this
  simpa [Function.comp_def] using this
/-- Nothing is above it. -/
def freeB (l : List Int) (n i : Nat) : Bool := (List.range n).all fun q => !above (pX l) (pY l) q i
theorem freeB_iff {l : List Int} {n i : Nat} : freeB l n i = true ↔ ∀ q, q < n → above (pX l) (pY l) q i = false := by
  unfold freeB; rw [List.all_eq_true]
  constructor
  · intro h q hq; have := h q (List.mem_range.2 hq); simpa using this
  · intro h q hq; rw [h q (List.mem_range.1 hq)]; rfl
/-- What Sky answers. -/
def SkyR (l : List Int) (n : Nat) (r : List Int) (cc : Int) : Prop := cc = ptCode n l ∧ (cc ≠ 0 → r = []) ∧ (cc = 0 → ∃ o, StabR (ltPS l) (natL (List.range n)) (natL o) ∧ r = natL (o.filter (freeB l n)))
theorem SkyR.uniq {l : List Int} {n : Nat} {r s : List Int} {cc : Int} (h : SkyR l n r cc) (g : SkyR l n s cc) : r = s := by
  by_cases c0 : cc = 0
  · obtain ⟨o, h1, rfl⟩ := h.2.2 c0
    obtain ⟨q, g1, rfl⟩ := g.2.2 c0
    rw [natL_inj (h1.uniq (ltPS_weak l) g1)]
  · rw [h.2.1 c0, g.2.1 c0]
/-- The state of the sweep: the places from k on have been met. -/
def SkySt (l : List Int) (n : Nat) (o : List Nat) (k : Nat) (outs : List Nat) (tx ty : Int) : Prop :=
  outs = ((o.drop k).filter (freeB l n)).reverse ∧ (k < n → ∃ t, k ≤ t ∧ t < n ∧ tx = pX l (o.getD t 0) ∧ ty = pY l (o.getD t 0) ∧ freeB l n (o.getD t 0) = true ∧ ∀ u, k ≤ u → u < n → pY l (o.getD u 0) ≤ ty)
theorem SkySt.start {l : List Int} {n : Nat} {o : List Nat} (h : OrdSky l n o) (tx ty : Int) : SkySt l n o n [] tx ty := by
  refine ⟨?_, fun h => absurd h (by omega)⟩
  rw [List.drop_of_length_le (by rw [h.len]; exact Nat.le_refl _)]; rfl
theorem SkySt.empty {l : List Int} {n : Nat} {o : List Nat} {k : Nat} {outs : List Nat} {tx ty : Int} (h : SkySt l n o k outs tx ty) (ho : OrdSky l n o) (hk : k < n) : 0 < outs.length := by
  obtain ⟨t, h1, h2, _, _, h5, _⟩ := h.2 hk
  have hl := ho.len
  rw [h.1, List.length_reverse]
  refine List.length_pos_of_mem (a := o.getD t 0) (List.mem_filter.2 ⟨?_, h5⟩)
  rw [ge_at o (by omega)]
  rw [List.mem_drop_iff_getElem]
  exact ⟨t - k, by omega, by congr 1; omega⟩
theorem SkySt.short {l : List Int} {n : Nat} {o : List Nat} {k : Nat} {outs : List Nat} {tx ty : Int} (h : SkySt l n o k outs tx ty) (ho : OrdSky l n o) : outs.length ≤ n - k := by
  have hl := ho.len
  rw [h.1, List.length_reverse]
  exact Nat.le_trans (List.length_filter_le _ _) (by rw [List.length_drop]; omega)
theorem SkySt.mem {l : List Int} {n : Nat} {o : List Nat} {k : Nat} {outs : List Nat} {tx ty : Int} (h : SkySt l n o k outs tx ty) (ho : OrdSky l n o) : ∀ i ∈ outs, i < n := fun i hi => by
  rw [h.1, List.mem_reverse] at hi
  exact List.mem_range.1 (ho.1.1.mem_iff.1 (List.mem_of_mem_drop (List.mem_filter.1 hi).1))
theorem drop_one {o : List Nat} {k : Nat} (hk : k < o.length) : o.drop k = o.getD k 0 :: o.drop (k + 1) := by
  rw [List.drop_eq_getElem_cons hk, ge_at o hk]
/-- What is above a place of the order comes behind it. -/
theorem above_ord {l : List Int} {n : Nat} {o : List Nat} (ho : OrdSky l n o) {q k : Nat} (hq : q < n) (hk : k < n) (h : above (pX l) (pY l) (o.getD q 0) (o.getD k 0) = true) : k < q := by
  rw [above_iff] at h
  rcases Nat.lt_trichotomy q k with g | g | g
  · have := ho.1.2 q k g hk; omega
  · subst g; omega
  · exact g
theorem SkySt.yes {l : List Int} {n : Nat} {o : List Nat} {k : Nat} {outs : List Nat} {tx ty : Int} (h : SkySt l n o (k + 1) outs tx ty) (ho : OrdSky l n o) (hk : k < n)
    (hc : k + 1 = n ∨ ty < pY l (o.getD k 0) ∨ (pX l (o.getD k 0) = tx ∧ pY l (o.getD k 0) = ty)) : SkySt l n o k (outs ++ [o.getD k 0]) (pX l (o.getD k 0)) (pY l (o.getD k 0)) := by
  have hl := ho.len
  have hfr : freeB l n (o.getD k 0) = true := by
    rw [freeB_iff]
    intro q hq
    obtain ⟨u, hu, rfl⟩ := perm_ex ho.1.1 hq
    cases ha : above (pX l) (pY l) (o.getD u 0) (o.getD k 0)
    · rfl
    exfalso
    have hku := above_ord ho hu hk ha
    rcases hc with hc | hc | ⟨c1, c2⟩
    · omega
    · obtain ⟨t, _, _, _, _, _, h6⟩ := h.2 (by omega)
      have := h6 u (by omega) hu
      rw [above_iff] at ha
      omega
    · obtain ⟨t, _, ht, h3, h4, h5, h6⟩ := h.2 (by omega)
      have := freeB_iff.1 h5 (o.getD u 0) (perm_lt ho.1.1 hu)
      rw [above_iff, c1, c2, h3, h4, ← above_iff (pX l) (pY l)] at ha
      rw [ha] at this; cases this
  refine ⟨?_, fun _ => ⟨k, Nat.le_refl _, hk, rfl, rfl, hfr, fun u h1 h2 => ?_⟩⟩
  · rw [drop_one (by omega), List.filter_cons, if_pos hfr, List.reverse_cons, ← h.1]
  · rcases Nat.eq_or_lt_of_le h1 with rfl | h1
    · omega
    · obtain ⟨t, _, _, _, _, _, h6⟩ := h.2 (by omega)
      have := h6 u (by omega) h2
      rcases hc with hc | hc | ⟨c1, c2⟩ <;> omega
theorem SkySt.no {l : List Int} {n : Nat} {o : List Nat} {k : Nat} {outs : List Nat} {tx ty : Int} (h : SkySt l n o (k + 1) outs tx ty) (ho : OrdSky l n o) (hk : k + 1 < n)
    (hc1 : ¬ ty < pY l (o.getD k 0)) (hc2 : ¬ (pX l (o.getD k 0) = tx ∧ pY l (o.getD k 0) = ty)) : SkySt l n o k outs tx ty := by
  have hl := ho.len
  obtain ⟨t, h1, h2, h3, h4, h5, h6⟩ := h.2 hk
  have hx := ho.1.2 k t (by omega) h2
  have hfr : freeB l n (o.getD k 0) = false := by
    cases hf : freeB l n (o.getD k 0)
    · rfl
    have := freeB_iff.1 hf _ (perm_lt ho.1.1 h2)
    rw [← Bool.not_eq_true, above_iff] at this
    omega
  refine ⟨?_, fun _ => ⟨t, by omega, h2, h3, h4, h5, fun u g1 g2 => ?_⟩⟩
  · rw [drop_one (by omega), List.filter_cons, if_neg (by rw [hfr]; decide), ← h.1]
  · rcases Nat.eq_or_lt_of_le g1 with rfl | g1
    · omega
    · exact h6 u (by omega) g2
theorem SkySt.done {l : List Int} {n : Nat} {o : List Nat} {outs : List Nat} {tx ty : Int} (h : SkySt l n o 0 outs tx ty) (ho : OrdSky l n o) (hc : ptCode n l = 0) : SkyR l n (natL outs.reverse) 0 :=
  ⟨hc.symm, fun h => absurd rfl h, fun _ => ⟨o, ho.stab, by rw [h.1, List.reverse_reverse, List.drop_zero]⟩⟩
/-- The reference's inner loop: is nothing of the first s above? -/
def freeTo (l : List Int) (i s : Nat) : Bool := (List.range s).all fun q => !above (pX l) (pY l) q i
theorem freeTo_0 (l : List Int) (i : Nat) : freeTo l i 0 = true := rfl
theorem freeTo_s (l : List Int) (i s : Nat) : freeTo l i (s + 1) = (freeTo l i s && !above (pX l) (pY l) s i) := by
  unfold freeTo; rw [List.range_succ, List.all_append]; simp
theorem freeTo_n (l : List Int) (n i : Nat) : freeTo l i n = freeB l n i := rfl
theorem filt_step (l : List Int) (n : Nat) (o : List Nat) {t : Nat} (ht : t < o.length) : natL ((o.take (t + 1)).filter (freeB l n)) = natL ((o.take t).filter (freeB l n)) ++ (if freeB l n (o.getD t 0) = true then [((o.getD t 0 : Nat) : Int)] else []) := by
  rw [List.take_add_one, List.filter_append, List.getElem?_eq_getElem ht]
  unfold natL
  rw [List.map_append, ge_at o ht]
  congr 1
  cases hf : freeB l n o[t] <;> simp [hf]
attribute [irreducible] freeB freeTo
end Go.Dam.Sky
