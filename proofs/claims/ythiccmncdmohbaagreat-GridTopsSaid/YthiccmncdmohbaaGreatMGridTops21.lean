/-
  Plain law of ranks, no program in sight: the values of a list, each once and ascending, and the rank of each number; what sorting and compacting leaves; and the way by counting. Conditions: none.
-/
import Derived.Test.YthiccmncdmohbaaGreatMGridTops20
import Derived.Test.YthiccmncdmohbaaGreatMGridTops08
import Derived.Lib.SlicesCompact
set_option linter.unusedVariables false
set_option linter.unusedSimpArgs false
namespace Go.Dam
open Go
set_option linter.unusedVariables false
/-- The values of a list: each once, ascending. -/
def ValsR (l vs : List Int) : Prop := vs.Pairwise (· < ·) ∧ ∀ z, z ∈ vs ↔ z ∈ l
theorem strict_uniq : ∀ {v u : List Int}, v.Pairwise (· < ·) → u.Pairwise (· < ·) → (∀ z, z ∈ v ↔ z ∈ u) → v = u
  | [], [], _, _, _ => rfl
  | [], y :: u, _, _, h => by have := (h y).2 (by simp); simp at this
  | x :: v, [], _, _, h => by have := (h x).1 (by simp); simp at this
  | x :: v, y :: u, h1, h2, h => by
    obtain ⟨a1, a2⟩ := List.pairwise_cons.1 h1
    obtain ⟨b1, b2⟩ := List.pairwise_cons.1 h2
    have hxy : x = y := by
      have m1 := (h x).1 (by simp)
      have m2 := (h y).2 (by simp)
      rcases List.mem_cons.1 m1 with e | e
      · exact e
      · rcases List.mem_cons.1 m2 with e2 | e2
        · exact e2.symm
        · have := a1 y e2; have := b1 x e; omega
    subst hxy
    rw [strict_uniq a2 b2 fun z => ⟨fun hz => ?_, fun hz => ?_⟩]
    · rcases List.mem_cons.1 ((h z).1 (by simp [hz])) with e | e
      · have := a1 z hz; omega
      · exact e
    · rcases List.mem_cons.1 ((h z).2 (by simp [hz])) with e | e
      · have := b1 z hz; omega
      · exact e
theorem ValsR.uniq {l v u : List Int} (h : ValsR l v) (g : ValsR l u) : v = u := strict_uniq h.1 g.1 fun z => (h.2 z).trans (g.2 z).symm
theorem nodup_mem_len : ∀ (k l : List Int), k.Nodup → (∀ z ∈ k, z ∈ l) → k.length ≤ l.length
  | [], l, _, _ => Nat.zero_le _
  | x :: k, l, h1, h2 => by
    obtain ⟨a1, a2⟩ := List.nodup_cons.1 h1
    have h3 := nodup_mem_len k (l.erase x) a2 fun z hz => by
      have hne : z ≠ x := fun e => a1 (e ▸ hz)
      exact (List.mem_erase_of_ne hne).2 (h2 z (by simp [hz]))
    have h4 := List.length_erase_of_mem (h2 x (by simp))
    have h5 : 0 < l.length := List.length_pos_of_mem (h2 x (by simp))
    rw [List.length_cons]; omega
theorem ValsR.len {l v : List Int} (h : ValsR l v) : v.length ≤ l.length := nodup_mem_len v l (h.1.imp fun h => by omega) fun z hz => (h.2 z).1 hz
theorem ValsR.asc {l v : List Int} (h : ValsR l v) : Asc v := fun i j hij hj => by
  rcases Nat.lt_or_ge i j with g | g
  · have := List.pairwise_iff_getElem.1 h.1 i j (by omega) hj g
    rw [List.getD_eq_getElem?_getD, List.getD_eq_getElem?_getD, List.getElem?_eq_getElem (by omega), List.getElem?_eq_getElem hj]
    simp only [Option.getD_some]; omega
  · rw [show i = j from by omega]; exact Int.le_refl _
theorem ValsR.lt_at {l v : List Int} (h : ValsR l v) {i j : Nat} (hij : i < j) (hj : j < v.length) : v.getD i 0 < v.getD j 0 := by
  have := List.pairwise_iff_getElem.1 h.1 i j (by omega) hj hij
  rw [List.getD_eq_getElem?_getD, List.getD_eq_getElem?_getD, List.getElem?_eq_getElem (by omega), List.getElem?_eq_getElem hj]
  simpa using this
/-- What sorting and compacting leaves. -/
theorem compact_upto (l : List Int) (hs : l.Pairwise fun a b => a ≤ b) : ∀ m, m ≤ l.length → (Lib.compactUpTo l.toArray m).Pairwise (· < ·) ∧ (∀ z, z ∈ Lib.compactUpTo l.toArray m ↔ z ∈ l.take m) ∧ ∀ z ∈ Lib.compactUpTo l.toArray m, 0 < m → z ≤ l.getD (m - 1) 0
  | 0, _ => by
    have : Lib.compactUpTo l.toArray 0 = [] := rfl
    rw [this]
    exact ⟨List.Pairwise.nil, fun z => by simp, fun z hz => by cases hz⟩
  | m + 1, hm => by
    obtain ⟨h1, h2, h3⟩ := compact_upto l hs m (by omega)
    have hget : ∀ j, j < l.length → l.toArray[j]! = l.getD j 0 := fun j hj => by
      rw [getElem!_pos l.toArray j (by simpa using hj), List.getD_eq_getElem?_getD, List.getElem?_eq_getElem hj]; simp
    have htake : l.take (m + 1) = l.take m ++ [l.getD m 0] := by
      rw [List.take_succ_eq_append_getElem (by omega), List.getD_eq_getElem?_getD, List.getElem?_eq_getElem (by omega)]; rfl
    have hle : 0 < m → l.getD (m - 1) 0 ≤ l.getD m 0 := fun h0 => by
      have := List.pairwise_iff_getElem.1 hs (m - 1) m (by omega) (by omega) (by omega)
      rw [List.getD_eq_getElem?_getD, List.getD_eq_getElem?_getD, List.getElem?_eq_getElem (by omega), List.getElem?_eq_getElem (by omega)]
      simpa using this
    rw [Lib.compactUpTo_succ, hget m (by omega)]
    by_cases hk : m = 0 ∨ l.getD m 0 ≠ l.getD (m - 1) 0
    · have hkeep : Lib.keeps l.toArray m = true := by
        unfold Lib.keeps
        rcases Nat.eq_zero_or_pos m with e | e
        · simp [e]
        · rw [hget m (by omega), hget (m - 1) (by omega)]; exact decide_eq_true hk
      rw [hkeep, if_pos rfl]
      refine ⟨?_, fun z => ?_, fun z hz _ => ?_⟩
      · rw [List.pairwise_append]
        refine ⟨h1, List.pairwise_singleton _ _, fun a ha b hb => ?_⟩
        rw [List.mem_singleton.1 hb]
        rcases Nat.eq_zero_or_pos m with e | e
        · subst e; have : a ∈ (l.take 0) := (h2 a).1 ha; simp at this
        · have := h3 a ha e; have := hle e; omega
      · rw [List.mem_append, htake, List.mem_append, h2 z]
      · show z ≤ l.getD (m + 1 - 1) 0
        rw [Nat.add_sub_cancel]
        rcases List.mem_append.1 hz with e | e
        · rcases Nat.eq_zero_or_pos m with e0 | e0
          · subst e0; have : z ∈ (l.take 0) := (h2 z).1 e; simp at this
          · have := h3 z e e0; have := hle e0; omega
        · rw [List.mem_singleton.1 e]; exact Int.le_refl _
    · have hm0 : 0 < m := by omega
      have heq : l.getD m 0 = l.getD (m - 1) 0 := by
        by_cases e : l.getD m 0 = l.getD (m - 1) 0
        · exact e
        · exact absurd (.inr e) hk
      have hkeep : Lib.keeps l.toArray m = false := by
        unfold Lib.keeps
        rw [hget m (by omega), hget (m - 1) (by omega)]; exact decide_eq_false hk
      rw [hkeep, if_neg (by simp), List.append_nil]
      refine ⟨h1, fun z => ?_, fun z hz _ => ?_⟩
      · rw [h2 z, htake, List.mem_append, List.mem_singleton]
        refine ⟨.inl, fun e => ?_⟩
        rcases e with e | e
        · exact e
        · rw [e, heq]
          rw [List.getD_eq_getElem?_getD, List.getElem?_eq_getElem (by omega)]
          exact List.mem_take_iff_getElem.2 ⟨m - 1, by omega, by simp⟩
      · show z ≤ l.getD (m + 1 - 1) 0
        rw [Nat.add_sub_cancel]
        have := h3 z hz hm0; omega
theorem valsR_compact (l : List Int) : ValsR l (Lib.compact (sortI l)) := by
  obtain ⟨h1, h2, _⟩ := compact_upto (sortI l) (sortI_sorted l) _ (Nat.le_refl _)
  refine ⟨h1, fun z => (h2 z).trans ?_⟩
  rw [List.take_length]
  exact (sortI_perm l).mem_iff
/-- What Make answers: the values, and the rank of each number. -/
def RankR (l vs rs : List Int) : Prop := ValsR l vs ∧ rs.length = l.length ∧ ∀ i, i < l.length → ∃ k : Nat, rs.getD i 0 = k ∧ RankOf vs (l.getD i 0) k
/-- How many are less. -/
def lessV (vs : List Int) (x : Int) : Nat := vs.countP fun m => decide (m < x)
theorem rankOf_less {vs : List Int} (ha : Asc vs) (x : Int) : ∀ k, RankOf vs x k → lessV vs x = k := by
  intro k h
  have key : ∀ (vs : List Int) (k : Nat), k ≤ vs.length → (∀ i, i < k → vs.getD i 0 < x) → (∀ i, k ≤ i → i < vs.length → x ≤ vs.getD i 0) → lessV vs x = k := by
    intro vs
    induction vs with
    | nil => intro k h1 _ _; have : k = 0 := by simpa using h1
             subst this; rfl
    | cons y vs ih =>
      intro k h1 h2 h3
      unfold lessV at ih ⊢
      cases k with
      | zero =>
        have h0 := h3 0 (Nat.le_refl _) (by simp)
        rw [List.getD_cons_zero] at h0
        rw [List.countP_cons_of_neg (by simp; omega)]
        exact ih 0 (Nat.zero_le _) (fun i hi => absurd hi (by omega)) fun i _ hi => by have := h3 (i + 1) (by omega) (by simpa using hi); rwa [List.getD_cons_succ] at this
      | succ k =>
        have h0 := h2 0 (by omega)
        rw [List.getD_cons_zero] at h0
        rw [List.countP_cons_of_pos (by simpa using h0), ih k (by simpa using h1) (fun i hi => by have := h2 (i + 1) (by omega); rwa [List.getD_cons_succ] at this) fun i hi hj => by have := h3 (i + 1) (by omega) (by simpa using hj); rwa [List.getD_cons_succ] at this]
  exact key vs k h.1 h.2.1 h.2.2
theorem rankOf_ex {vs : List Int} (ha : Asc vs) (x : Int) : RankOf vs x (lessV vs x) := by
  have ex : ∃ k, RankOf vs x k := by
    have key : ∀ d k, vs.length - k = d → k ≤ vs.length → (∀ i, i < k → vs.getD i 0 < x) → ∃ k, RankOf vs x k := by
      intro d
      induction d with
      | zero => intro k h1 h2 h3; exact ⟨k, h2, h3, fun h g1 g2 => absurd g2 (by omega)⟩
      | succ d ih =>
        intro k h1 h2 h3
        by_cases hk : vs.getD k 0 < x
        · exact ih (k + 1) (by omega) (by omega) fun i hi => by
            rcases Nat.lt_or_ge i k with g | g
            · exact h3 i g
            · rw [show i = k from by omega]; exact hk
        · exact ⟨k, h2, h3, fun h g1 g2 => by have := ha k h g1 g2; omega⟩
    exact key _ 0 rfl (Nat.zero_le _) fun i hi => absurd hi (by omega)
  obtain ⟨k, h⟩ := ex
  rw [rankOf_less ha x k h]; exact h
theorem ValsR.ex (l : List Int) : ∃ vs, ValsR l vs := ⟨_, valsR_compact l⟩
theorem RankR.ex (l : List Int) : ∃ vs rs, RankR l vs rs := by
  obtain ⟨vs, h⟩ := ValsR.ex l
  refine ⟨vs, l.map fun x => (lessV vs x : Int), h, by simp, fun i hi => ⟨lessV vs (l.getD i 0), ?_, rankOf_ex h.asc _⟩⟩
  rw [List.getD_eq_getElem?_getD, List.getElem?_map, List.getElem?_eq_getElem hi, List.getD_eq_getElem?_getD, List.getElem?_eq_getElem hi]; rfl
/-- One rank more. -/
theorem RankR.take {l vs rs : List Int} (h : RankR l vs rs) {i k : Nat} (hi : i < l.length) (hk : RankOf vs (l.getD i 0) k) : rs.take (i + 1) = rs.take i ++ [(k : Int)] := by
  obtain ⟨m, e, hm⟩ := h.2.2 i hi
  rw [List.take_succ_eq_append_getElem (by rw [h.2.1]; exact hi)]
  rw [List.getD_eq_getElem?_getD, List.getElem?_eq_getElem (by rw [h.2.1]; exact hi)] at e
  simp only [Option.getD_some] at e
  rw [e, hm.uniq hk]
/-- A number of the values stands at its rank. -/
theorem ValsR.at_rank {l vs : List Int} (h : ValsR l vs) {z : Int} (hz : z ∈ vs) : lessV vs z < vs.length ∧ vs.getD (lessV vs z) 0 = z := by
  obtain ⟨i, hi, e⟩ := List.mem_iff_getElem.1 hz
  have hg : vs.getD i 0 = z := by rw [List.getD_eq_getElem?_getD, List.getElem?_eq_getElem hi]; exact e
  have : lessV vs z = i := rankOf_less h.asc z i ⟨by omega, fun j hj => by rw [← hg]; exact h.lt_at hj hi, fun j h1 h2 => by rw [← hg]; exact h.asc i j h1 h2⟩
  rw [this]; exact ⟨hi, hg⟩
/-- The kinds of a list in the order in which they come. -/
def KindsR (l ks : List Int) (i : Nat) : Prop := ks.Nodup ∧ ∀ z, z ∈ ks ↔ z ∈ l.take i
theorem KindsR.perm {l ks vs : List Int} (h : KindsR l ks l.length) (g : ValsR l vs) : ks.Perm vs := by
  refine (List.perm_ext_iff_of_nodup h.1 (g.1.imp fun h => by omega)).2 fun z => ?_
  rw [h.2, g.2, List.take_length]
theorem KindsR.less {l ks vs : List Int} (h : KindsR l ks l.length) (g : ValsR l vs) (x : Int) : lessV ks x = lessV vs x := (h.perm g).countP_eq _
theorem lessV_take (ks : List Int) (x : Int) {i : Nat} (hi : i < ks.length) : lessV (ks.take (i + 1)) x = lessV (ks.take i) x + if ks.getD i 0 < x then 1 else 0 := by
  unfold lessV
  rw [List.take_succ_eq_append_getElem hi, List.countP_append, List.getD_eq_getElem?_getD, List.getElem?_eq_getElem hi]
  congr 1
  simp only [Option.getD_some]
  by_cases h : ks[i] < x
  · rw [if_pos h, List.countP_cons_of_pos (by simpa using h)]; rfl
  · rw [if_neg h, List.countP_cons_of_neg (by simpa using h)]; rfl
/-- The values while they are laid, kind by kind. -/
def laid (vs ks : List Int) (i : Nat) : List Int := vs.map fun v => if v ∈ ks.take i then v else 0
theorem laid_len (vs ks : List Int) (i : Nat) : (laid vs ks i).length = vs.length := by unfold laid; simp
theorem laid_0 (vs ks : List Int) : laid vs ks 0 = List.replicate vs.length 0 := by
  unfold laid
  rw [List.take_zero]
  simp only [List.not_mem_nil, if_false]
  exact List.map_const' ..
theorem laid_all {vs ks : List Int} (h : ks.Perm vs) : laid vs ks ks.length = vs := by
  unfold laid
  rw [List.take_length]
  conv => rhs; rw [← List.map_id vs]
  exact List.map_congr_left fun v hv => by rw [if_pos (h.mem_iff.2 hv)]; rfl
theorem laid_set {l vs ks : List Int} (hv : ValsR l vs) (hp : ks.Perm vs) {i : Nat} (hi : i < ks.length) : (laid vs ks i).set (lessV vs (ks.getD i 0)) (ks.getD i 0) = laid vs ks (i + 1) := by
  have hz : ks.getD i 0 ∈ vs := by
    rw [List.getD_eq_getElem?_getD, List.getElem?_eq_getElem hi]
    exact hp.mem_iff.1 (List.getElem_mem hi)
  obtain ⟨h1, h2⟩ := hv.at_rank hz
  apply List.ext_getElem
  · rw [List.length_set, laid_len, laid_len]
  · intro j g1 g2
    rw [laid_len] at g2
    have e : ∀ k, (laid vs ks k)[j]'(by rw [laid_len]; exact g2) = if vs[j] ∈ ks.take k then vs[j] else 0 := fun k => by unfold laid; simp
    rw [List.getElem_set, e (i + 1)]
    have htk : ks.take (i + 1) = ks.take i ++ [ks.getD i 0] := by
      rw [List.take_succ_eq_append_getElem hi, List.getD_eq_getElem?_getD, List.getElem?_eq_getElem hi]; rfl
    rw [htk]
    by_cases hj : lessV vs (ks.getD i 0) = j
    · rw [if_pos hj]
      have hvj : vs[j] = ks.getD i 0 := by
        rw [hj] at h2
        have e3 : vs.getD j 0 = vs[j] := by rw [List.getD_eq_getElem?_getD, List.getElem?_eq_getElem g2]; rfl
        rw [← e3]; exact h2
      rw [hvj, if_pos (by simp)]
    · rw [if_neg hj, e i]
      have e3 : vs.getD j 0 = vs[j] := by rw [List.getD_eq_getElem?_getD, List.getElem?_eq_getElem g2]; rfl
      have hne : vs[j] ≠ ks.getD i 0 := fun e2 => by
        rcases Nat.lt_trichotomy j (lessV vs (ks.getD i 0)) with g | g | g
        · have := hv.lt_at g h1
          rw [h2, e3] at this; omega
        · exact hj g.symm
        · have := hv.lt_at g g2
          rw [h2, e3] at this; omega
      simp only [List.mem_append, List.mem_singleton, hne, or_false]
theorem KindsR.more {l ks : List Int} {i : Nat} (h : KindsR l ks i) (hi : i < l.length) (hx : l.getD i 0 ∉ ks) : KindsR l (ks ++ [l.getD i 0]) (i + 1) := by
  refine ⟨?_, fun z => ?_⟩
  · rw [List.nodup_append]
    exact ⟨h.1, by simp, fun a ha b hb => by rw [List.mem_singleton.1 hb]; exact fun e => hx (e ▸ ha)⟩
  · rw [List.take_succ_eq_append_getElem hi, List.getD_eq_getElem?_getD, List.getElem?_eq_getElem hi, List.mem_append, List.mem_append, h.2 z]; rfl
theorem KindsR.same {l ks : List Int} {i : Nat} (h : KindsR l ks i) (hi : i < l.length) (hx : l.getD i 0 ∈ ks) : KindsR l ks (i + 1) := by
  refine ⟨h.1, fun z => ?_⟩
  rw [List.take_succ_eq_append_getElem hi, List.mem_append, h.2 z]
  refine ⟨.inl, fun e => e.elim id fun e => ?_⟩
  rw [List.getD_eq_getElem?_getD, List.getElem?_eq_getElem hi] at hx
  rw [List.mem_singleton.1 e]; exact (h.2 _).1 hx
attribute [irreducible] lessV laid
end Go.Dam
