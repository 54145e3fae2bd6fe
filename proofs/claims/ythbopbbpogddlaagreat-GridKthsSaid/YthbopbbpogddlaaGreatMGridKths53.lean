/-
  Texts of one claim behind each other. Conditions: none of its own.
-/
import Derived.Test.YthbopbbpogddlaaGreatMGridKths34
import Derived.Test.YthbopbbpogddlaaGreatMGridKths01
import Derived.Test.YthbopbbpogddlaaGreatMGridKths52
import Derived.Test.YthbopbbpogddlaaGreatMGridKths38
/-
  Plain law of grid.Kth, no program in sight: the number that the wave finds, and the place that is left of it among those that have it, are the place that the sorted list has. Conditions: none.
-/
namespace Go.Dam
open Go Go.RowKit Go.Dam.Stable
set_option linter.unusedVariables false
theorem pair_at {T : Nat → Nat → Prop} {m : List Nat} (h : m.Pairwise T) {u v : Nat} (huv : u < v) (hv : v < m.length) : T (m.getD u 0) (m.getD v 0) := by
  rw [ge_at m (by omega), ge_at m hv]; exact List.pairwise_iff_getElem.1 h u v (by omega) hv huv
/-- In a list that is in strict order, as many are ahead of an element as its place says. -/
theorem at_count {T : Nat → Nat → Bool} (asy : ∀ x y, T x y = true → T y x = false) {m : List Nat} (h : m.Pairwise fun x y => T x y = true) {k : Nat} (hk : k < m.length) : m.countP (fun x => T x (m.getD k 0)) = k := by
  refine countP_cut m k (by omega) (fun u hu => pair_at h hu hk) (fun u h1 h2 => ?_)
  rcases Nat.eq_or_lt_of_le h1 with rfl | g
  · cases hT : T (m.getD k 0) (m.getD k 0) with
    | false => rfl
    | true => rw [asy _ _ hT] at hT; cases hT
  · exact asy _ _ (pair_at h g h2)
theorem count_at {T : Nat → Nat → Bool} (asy : ∀ x y, T x y = true → T y x = false) {m : List Nat} (h : m.Pairwise fun x y => T x y = true) {k z : Nat} (hz : z ∈ m) (hc : m.countP (fun x => T x z) = k) : k < m.length ∧ m.getD k 0 = z := by
  obtain ⟨j, hj, rfl⟩ := List.mem_iff_getElem.1 hz
  have := at_count asy h hj
  rw [ge_at m hj] at this
  rw [this] at hc
  subst hc
  exact ⟨hj, ge_at m hj⟩
/-- Places by Y, then X, then place. -/
def byYX (l : List Int) (i j : Nat) : Bool := decide (yPl l i < yPl l j) || (decide (yPl l i = yPl l j) && (decide (l.getD (i * 3) 0 < l.getD (j * 3) 0) || (decide (l.getD (i * 3) 0 = l.getD (j * 3) 0) && decide (i < j))))
theorem byYX_iff {l : List Int} {i j : Nat} : byYX l i j = true ↔ yPl l i < yPl l j ∨ (yPl l i = yPl l j ∧ (l.getD (i * 3) 0 < l.getD (j * 3) 0 ∨ (l.getD (i * 3) 0 = l.getD (j * 3) 0 ∧ i < j))) := by
  unfold byYX; simp only [Bool.or_eq_true, Bool.and_eq_true, decide_eq_true_eq]
theorem byYX_asym (l : List Int) (i j : Nat) (h : byYX l i j = true) : byYX l j i = false := by
  cases hc : byYX l j i with
  | false => rfl
  | true => rw [byYX_iff] at h hc; omega
theorem tagT_yx {l : List Int} {p : Nat → Bool} {i j : Nat} (hi : p i = true) (hj : p j = true) (h : TagT (ltPYx l) (cntP p i, (i : Int)) (cntP p j, (j : Int))) : byYX l i j = true := by
  rw [byYX_iff]
  unfold TagT ltPYx ltYx at h
  simp only [Int.toNat_natCast, Bool.or_eq_true, Bool.and_eq_true, decide_eq_true_eq, Bool.or_eq_false_iff, Bool.and_eq_false_iff, decide_eq_false_iff_not] at h
  have hij : cntP p i < cntP p j → i < j := fun hc => by
    rcases Nat.lt_or_ge i j with g | g
    · exact g
    · have := cntP_mono p g; omega
  unfold yPl
  rcases h with h | ⟨h1, h2, h3⟩
  · omega
  · have := hij h3
    omega
/-- What a stable sort by Y and X leaves of ascending places. -/
theorem stabK_list {l : List Int} {n : Nat} {p : Nat → Bool} {r : List Int} (h : StabR (ltPYx l) (natL ((List.range n).filter p)) r) : ∃ m : List Nat, r = natL m ∧ m.Perm ((List.range n).filter p) ∧ m.Pairwise fun x y => byYX l x y = true := by
  obtain ⟨t, h1, h2, rfl⟩ := h
  rw [tagL_filter] at h1
  have hmem : ∀ x ∈ t, ∃ i, p i = true ∧ x = (cntP p i, (i : Int)) := fun x hx => by
    obtain ⟨i, hi, rfl⟩ := List.mem_map.1 (h1.mem_iff.1 hx)
    exact ⟨i, (List.mem_filter.1 hi).2, rfl⟩
  refine ⟨t.map fun x => x.2.toNat, ?_, ?_, ?_⟩
  · unfold natL
    rw [List.map_map]
    refine List.map_congr_left fun x hx => ?_
    obtain ⟨i, _, rfl⟩ := hmem x hx
    rfl
  · have h3 := h1.map fun x : Nat × Int => x.2.toNat
    rw [List.map_map] at h3
    have e : ((List.range n).filter p).map ((fun x : Nat × Int => x.2.toNat) ∘ fun i => (cntP p i, (i : Int))) = (List.range n).filter p := by
      conv => rhs; rw [← List.map_id ((List.range n).filter p)]
      exact List.map_congr_left fun i _ => rfl
    rwa [e] at h3
  · rw [List.pairwise_map]
    refine List.Pairwise.imp_of_mem ?_ h2
    intro x y hx hy hT
    obtain ⟨i, hi, rfl⟩ := hmem x hx
    obtain ⟨j, hj, rfl⟩ := hmem y hy
    exact tagT_yx hi hj hT
theorem perm_cnt {p q : Nat → Bool} {l : List Int} {n : Nat} {r m : List Nat} {x0 y0 x1 y1 : Int} (hO : OrdXY l n r) (hm : m.Perm ((List.range n).filter (inQ l x0 y0 x1 y1))) : m.countP q = (r.filter (inP l x0 y0 x1 y1)).countP q := by
  rw [hm.countP_eq]; exact ((hO.1.symm.filter (inP l x0 y0 x1 y1)).countP_eq q)
/-- The number that the wave has at a place of a range. -/
theorem kth_num {l : List Int} {n a b K : Nat} {r : List Nat} {vals rs : List Int} {wss : List (List Nat)} {cc : Int} (h : IdxR l n r vals rs wss cc) (hn : n ≤ 150) (hab : a ≤ b) (hb : b ≤ n) (hK : K < b - a) :
    ∃ k : Nat, (sW (wss.map fun ws => ((n : Int), ws)) n a b).getD K 0 = k ∧ k < vals.length ∧ belowN l r n a b (vals.getD k 0) false ≤ K ∧ K < belowN l r n a b (vals.getD k 0) true := by
  have hl := idx_rs h
  have hV := h.2.1.1
  have hso := sW_sorted (wss.map fun ws => ((n : Int), ws)) n a b
  have hle := sW_length (wss.map fun ws => ((n : Int), ws)) hab hb
  have hmem := getD_in (sW (wss.map fun ws => ((n : Int), ws)) n a b) (i := K) (by omega)
  have hin : ∃ k : Nat, (sW (wss.map fun ws => ((n : Int), ws)) n a b).getD K 0 = k ∧ k < vals.length := by
    rw [idx_made h hn] at hmem ⊢
    have e := made_sorted (idx_ok h hn) hab (by omega : b ≤ rs.length)
    rw [hl] at e
    rw [e] at hmem ⊢
    have h2 := (sortI_perm _).mem_iff.1 hmem
    obtain ⟨j, hj, e2⟩ := List.mem_iff_getElem.1 (List.mem_of_mem_drop (List.mem_of_mem_take h2))
    obtain ⟨k, e3, h3, _⟩ := idx_rank h (j := j) (by omega)
    rw [List.getD_eq_getElem?_getD, List.getElem?_eq_getElem hj] at e3
    exact ⟨k, by rw [← e2]; exact e3, h3⟩
  obtain ⟨k, e, hk⟩ := hin
  refine ⟨k, e, hk, ?_, ?_⟩
  · have hB : BoundOf (fun i => isAb (vals.getD i 0) (vals.getD k 0) false) vals.length k := ⟨by omega, fun i hi => by
      have := hV.lt_at hi hk
      have h2 := not_ab_no (vals.getD i 0) (vals.getD k 0)
      rw [decide_eq_true this] at h2; simpa using h2, fun i h1 h2 => by
      have := hV.asc k i h1 h2
      have h2 := not_ab_no (vals.getD i 0) (vals.getD k 0)
      rw [decide_eq_false (by omega)] at h2; simpa using h2⟩
    have hc := idx_below h hn hab hb hB
    have hs := sorted_ahead _ hso (k : Int) K (by omega)
    rw [e, hc] at hs
    rcases Nat.lt_or_ge K (belowN l r n a b (vals.getD k 0) false) with g | g
    · have := hs.2 g; omega
    · exact g
  · have hB : BoundOf (fun i => isAb (vals.getD i 0) (vals.getD k 0) true) vals.length (k + 1) := ⟨by omega, fun i hi => by
      have := hV.asc i k (by omega) hk
      have h2 := not_ab_at (vals.getD i 0) (vals.getD k 0)
      rw [decide_eq_true this] at h2; simpa using h2, fun i h1 h2 => by
      have := hV.lt_at (show k < i from h1) h2
      have h2 := not_ab_at (vals.getD i 0) (vals.getD k 0)
      rw [decide_eq_false (by omega)] at h2; simpa using h2⟩
    have hc := idx_below h hn hab hb hB
    have hs := sorted_ahead _ hso ((k + 1 : Nat) : Int) K (by omega)
    rw [e, hc] at hs
    exact hs.1 (by omega)
/-- Counts between two numbers. -/
theorem belowN_mono {l : List Int} {r : List Nat} {n a b : Nat} (hr : r.length = n) (hab : a ≤ b) (hb : b ≤ n) {y z : Int} {s t : Bool} (h : ∀ v, isAb v z t = true → isAb v y s = true) : belowN l r n a b y s ≤ belowN l r n a b z t := by
  rw [belowN_seg hr hab hb, belowN_seg hr hab hb]
  refine List.countP_mono_left fun i _ hi => ?_
  cases hc : isAb (yPl l i) z t with
  | false => rfl
  | true => rw [h _ hc] at hi; cases hi
theorem kth_eq {l : List Int} {n a b : Nat} {r : List Nat} {x0 y0 x1 y1 y : Int} {k : Nat} {m : List Nat} (hO : OrdXY l n r) (hc : ColsAt l r n x0 x1 a b) (hk : k < cntIn l n x0 y0 x1 y1)
    (h1 : belowN l r n a b y false ≤ belowN l r n a b y0 false + k) (h2 : belowN l r n a b y0 false + k < belowN l r n a b y true)
    (hm : m.Perm ((List.range n).filter (inQ l x0 y0 x1 y1))) (hp : m.Pairwise fun x z => byYX l x z = true) :
    ∃ j : Nat, (j : Int) = k - ((belowN l r n a b y false : Int) - (belowN l r n a b y0 false : Int)) ∧ j < (r.filter (inP l x0 y x1 y)).length ∧ (r.filter (inP l x0 y x1 y)).getD j 0 = m.getD k 0 := by
  obtain ⟨hab, hb⟩ := cols_le hc
  have hlen := hO.len
  have hce := count_eq (y0 := y0) (y1 := y1) hO hc
  have g0 : y0 ≤ y := by
    rcases Int.lt_or_le y y0 with g | g
    · have := belowN_mono (l := l) (r := r) hlen hab hb (y := y) (z := y0) (s := true) (t := false) fun v hv => by unfold isAb at hv ⊢; simp at hv ⊢; omega
      omega
    · exact g
  have g1 : y ≤ y1 := by
    rcases Int.lt_or_le y1 y with g | g
    · have := belowN_mono (l := l) (r := r) hlen hab hb (y := y1) (z := y) (s := true) (t := false) fun v hv => by unfold isAb at hv ⊢; simp at hv ⊢; omega
      omega
    · exact g
  have gm := belowN_mono (l := l) (r := r) hlen hab hb (y := y0) (z := y) (s := false) (t := false) fun v hv => by unfold isAb at hv ⊢; simp at hv ⊢; omega
  -- those of this Y
  have hc2 : ColsAt l r n x0 x1 a b := hc
  have hN : (r.filter (inP l x0 y x1 y)).length = belowN l r n a b y true - belowN l r n a b y false := by
    have := count_eq (y0 := y) (y1 := y) hO hc
    have e : (r.filter (inP l x0 y x1 y)).length = cntIn l n x0 y x1 y := by unfold cntIn; exact (hO.1.filter _).length_eq
    omega
  obtain ⟨j, hj⟩ : ∃ j : Nat, (j : Int) = k - ((belowN l r n a b y false : Int) - (belowN l r n a b y0 false : Int)) := ⟨k + belowN l r n a b y0 false - belowN l r n a b y false, by omega⟩
  refine ⟨j, hj, by omega, ?_⟩
  have hjl : j < (r.filter (inP l x0 y x1 y)).length := by omega
  -- the order of those of this Y
  have hL : (r.filter (inP l x0 y x1 y)).Pairwise fun u v => byYX l u v = true := by
    have q1 : r.Pairwise fun u v => ¬ (l.getD (v * 3) 0 < l.getD (u * 3) 0 ∨ (l.getD (v * 3) 0 = l.getD (u * 3) 0 ∧ (l.getD (v * 3 + 1) 0 < l.getD (u * 3 + 1) 0 ∨ (l.getD (v * 3 + 1) 0 = l.getD (u * 3 + 1) 0 ∧ v < u)))) := by
      rw [List.pairwise_iff_getElem]
      intro u v hu hv huv
      have := hO.2 u v huv (by omega)
      unfold xOf yOf at this
      rw [ge_at r hu, ge_at r hv] at this
      exact this
    have q2 : r.Pairwise (· ≠ ·) := hO.1.nodup_iff.2 List.nodup_range
    refine List.Pairwise.imp_of_mem ?_ ((q1.and q2).filter _)
    rintro u v hu hv ⟨w1, w2⟩
    have p1 := (List.mem_filter.1 hu).2
    have p2 := (List.mem_filter.1 hv).2
    unfold inP inR at p1 p2
    simp only [Bool.and_eq_true, decide_eq_true_eq] at p1 p2
    rw [byYX_iff]
    unfold yPl
    omega
  obtain ⟨z, hz⟩ : ∃ z, (r.filter (inP l x0 y x1 y)).getD j 0 = z := ⟨_, rfl⟩
  have hzm : z ∈ r.filter (inP l x0 y x1 y) := by rw [← hz, ge_at _ hjl]; exact List.getElem_mem hjl
  have hcz := at_count (byYX_asym l) hL hjl
  rw [hz] at hcz
  have hzy : yPl l z = y := by
    have := (List.mem_filter.1 hzm).2
    unfold inP inR at this
    simp only [Bool.and_eq_true, decide_eq_true_eq] at this
    unfold yPl; omega
  have hzin : inP l x0 y0 x1 y1 z = true := by
    have := (List.mem_filter.1 hzm).2
    unfold inP inR at this ⊢
    simp only [Bool.and_eq_true, decide_eq_true_eq] at this ⊢
    omega
  have hzM : z ∈ m := hm.mem_iff.2 (List.mem_filter.2 ⟨hO.1.mem_iff.1 (List.mem_filter.1 hzm).1, hzin⟩)
  have hcm : m.countP (fun x => byYX l x z) = k := by
    rw [perm_cnt (p := fun _ => true) hO hm]
    have s1 := countP_sub (p := fun x => byYX l x z) (q := fun x => decide (yPl l x < y)) (s := fun x => decide (yPl l x = y) && byYX l x z) (r.filter (inP l x0 y0 x1 y1)) fun i hi => by
      simp only [Bool.and_eq_true, decide_eq_true_eq]
      have := @byYX_iff l i z
      rw [hzy] at this
      constructor
      · constructor
        · intro h; have h' := this.1 h
          rcases Int.lt_or_le (yPl l i) y with g | g
          · exact .inl g
          · exact .inr ⟨by omega, h⟩
        · rintro (h | h)
          · exact this.2 (.inl h)
          · exact h.2
      · rintro ⟨a1, a2, _⟩; omega
    have s2 : (r.filter (inP l x0 y0 x1 y1)).countP (fun x => decide (yPl l x = y) && byYX l x z) = j := by
      rw [← hcz, List.countP_filter, List.countP_filter]
      refine List.countP_congr fun i _ => ?_
      unfold inP inR yPl
      simp only [Bool.and_eq_true, decide_eq_true_eq]
      constructor
      · rintro ⟨⟨a1, a2⟩, a3⟩; exact ⟨a2, by omega⟩
      · rintro ⟨a1, a2⟩; exact ⟨⟨by omega, a1⟩, by omega⟩
    have s3 : (r.filter (inP l x0 y0 x1 y1)).countP (fun x => decide (yPl l x < y)) = belowN l r n a b y false - belowN l r n a b y0 false := by
      rw [← cols_filter hlen hc, List.countP_filter, belowN_seg hlen hab hb, belowN_seg hlen hab hb]
      have := countP_sub (p := fun i => !isAb (yPl l i) y false) (q := fun i => !isAb (yPl l i) y0 false) (s := fun i => decide (yPl l i < y) && inP l x0 y0 x1 y1 i) ((r.drop a).take (b - a)) fun i hi => by
        rw [cols_in hlen hc hi]
        simp only [not_ab_no, Bool.and_eq_true, decide_eq_true_eq]; omega
      omega
    rw [s1, s2, s3]
    omega
  have := (count_at (byYX_asym l) hp hzM hcm).2
  rw [hz, this]
end Go.Dam

/-
  Contracts of wave.Kth and of the reference's WaveKth, and the walk of the law WaveKths. Conditions: the arguments can be read as data.
-/
namespace Go.Proofs.YthbopbbpogddlaaGreat
open Go Go.RowKit Go.Dam
set_option linter.unusedVariables false
/-- What Kth answers. -/
def WKthR (rs : List (Int × List Nat)) (k cc : Int) (n p q : Nat) (r ec : Int) : Prop :=
  (cc ≠ 0 ∧ r = 0 ∧ ec = cc) ∨ (cc = 0 ∧ k < 0 ∧ r = 0 ∧ ec = 2) ∨ (cc = 0 ∧ ¬ k < 0 ∧ ((q - p : Nat) : Int) ≤ k ∧ r = 0 ∧ ec = 7) ∨ (cc = 0 ∧ ∃ j : Nat, k = j ∧ j < q - p ∧ r = (sW rs n p q).getD j 0 ∧ ec = 0)
theorem WKthR.ex (rs : List (Int × List Nat)) (k cc : Int) (n p q : Nat) : ∃ r ec, WKthR rs k cc n p q r ec := by
  by_cases h : cc = 0
  · by_cases h1 : k < 0
    · exact ⟨_, _, .inr (.inl ⟨h, h1, rfl, rfl⟩)⟩
    · by_cases h2 : ((q - p : Nat) : Int) ≤ k
      · exact ⟨_, _, .inr (.inr (.inl ⟨h, h1, h2, rfl, rfl⟩))⟩
      · exact ⟨_, _, .inr (.inr (.inr ⟨h, k.toNat, by omega, by omega, rfl, rfl⟩))⟩
  · exact ⟨_, _, .inl ⟨h, rfl, rfl⟩⟩
set_option maxRecDepth 100000 in
set_option maxHeartbeats 2000000 in
theorem waveKthP (v : Value) (rs : List (Int × List Nat)) (a b k cc r ec : Int) (n p q : Nat) (w : World) (B : Nat) (hB : B ≤ w.heap.size) (h : IsWave w B v rs) (ha : I64 a) (hb : I64 b) (hk : I64 k) (hR : RangeR rs a b cc n p q) (hr : WKthR rs k cc n p q r ec) :
    Calls Tryz.prog 20 #[v, .int .i64 a, .int .i64 b, .int .i64 k] w fun e w' => e = .returned (.tuple #[.int .i64 r, .int .i64 ec]) ∧ Below w.heap.size w w' := by
  have HF := Lib.hid fun W (hW : Below w.heap.size w W) => waveFault_any v rs a b cc W B (Nat.le_trans hB hW.size) (h.below (hW.mono hB)) ha hb hR.fault
  have HBl := Lib.hid fun n a b k hmw hln hab hbn hk W (hW : Below w.heap.size w W) => waveKth_any v rs n a b k W B (Nat.le_trans hB hW.size) (h.below (hW.mono hB)) hmw hln hab hbn hk
  obtain ⟨s, rfl, h⟩ := h
  obtain ⟨A, c, vs, rfl, hc, hm, hn, _, _⟩ := h
  have HA := Lib.hid ((Below.refl w.heap.size w).alloc (Nat.le_refl _) (.cells #[.slice A rs.length c] 48))
  unfold I64 at ha hb hk
  rcases hR with ⟨_, h0⟩ | ⟨hmw, rfl, hln, rfl, rfl, hpq, hqn⟩
  · rcases hr with ⟨_, rfl, rfl⟩ | ⟨h1, _⟩ | ⟨h1, _⟩ | ⟨h1, _⟩
    · have hd : (ec != 0) = true := by simpa using h0
      clear HBl h0
      go_enter Tryz.func20, Tryz.ntmps20
      go_wp2_with (go_at_call 46; refine (HF.out _ HA.out).mono ?_; rintro e w1 ⟨rfl, hb⟩)
      go_ret2
      exact ⟨rfl, below_box hb⟩
    · exact absurd h1 h0
    · exact absurd h1 h0
    · exact absurd h1 h0
  · rcases hr with ⟨h1, _⟩ | ⟨_, h2, rfl, rfl⟩ | ⟨_, h2, h3, rfl, rfl⟩ | ⟨_, j, rfl, hj, rfl, rfl⟩
    · exact absurd rfl h1
    · clear HBl hmw hln
      go_enter Tryz.func20, Tryz.ntmps20
      go_wp2_with (go_at_call 46; refine (HF.out _ HA.out).mono ?_; rintro e w1 ⟨rfl, hb⟩)
      go_ret2
      exact ⟨rfl, below_box hb⟩
    · have h4 : (q : Int) - (p : Int) ≤ k := by omega
      clear HBl hmw hln
      go_enter Tryz.func20, Tryz.ntmps20
      go_wp2_with (go_at_call 46; refine (HF.out _ HA.out).mono ?_; rintro e w1 ⟨rfl, hb⟩)
      go_ret2
      exact ⟨rfl, below_box hb⟩
    · have HC := Lib.hid (HBl.out n p q j hmw hln hpq hqn hj)
      have h2 : ¬ (j : Int) < 0 := by omega
      have h4 : ¬ (q : Int) - (p : Int) ≤ (j : Int) := by omega
      generalize (sW rs n p q).getD j 0 = R at *
      clear HBl hmw hln
      go_enter Tryz.func20, Tryz.ntmps20
      go_wp2_with (first
        | (go_at_call 46; refine (HF.out _ HA.out).mono ?_; rintro e w1 ⟨rfl, hb⟩; have k0 := box1' hb; have HB1 := Lib.hid (below_box hb); clear hb)
        | (go_at_call 47; refine (HC.out _ HB1.out).mono ?_; rintro e w2 ⟨rfl, hb2⟩))
      go_ret2
      exact ⟨rfl, HB1.out.trans (hb2.mono HB1.out.size)⟩
end Go.Proofs.YthbopbbpogddlaaGreat
