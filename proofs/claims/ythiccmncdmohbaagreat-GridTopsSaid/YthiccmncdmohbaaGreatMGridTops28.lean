/-
  Contract of wave.Make: numbers level by level. Conditions: the arguments can be read as data.
-/
import Derived.Test.YthiccmncdmohbaaGreatMGridTops18
import Derived.Test.YthiccmncdmohbaaGreatMGridTops00
import Derived.Test.YthiccmncdmohbaaGreatMGridTops27
import Derived.Test.YthiccmncdmohbaaGreatMGridTops04
set_option linter.unusedVariables false
set_option linter.unusedSimpArgs false
namespace Go.Dam
open Go Go.RowKit
set_option linter.unusedVariables false
theorem getD_in (l : List Int) {i : Nat} (h : i < l.length) : l.getD i 0 ∈ l := by rw [List.getD_eq_getElem?_getD, List.getElem?_eq_getElem h]; exact List.getElem_mem _
/-- A number that fits. -/
def okZ (lv : Nat) (z : Int) : Prop := 0 ≤ z ∧ z < 2 ^ lv
/-- What Make answers: the words of each level, and a code. -/
def WaveMk (lv : Int) (l : List Int) (wss : List (List Nat)) (c : Int) : Prop :=
  (300 < l.length ∧ wss = [] ∧ c = 1) ∨ (l.length ≤ 300 ∧ (lv < 0 ∨ 21 < lv) ∧ wss = [] ∧ c = 2) ∨
  (l.length ≤ 300 ∧ 0 ≤ lv ∧ lv ≤ 21 ∧ (∃ j, j < l.length ∧ ¬ okZ lv.toNat (l.getD j 0)) ∧ wss = [] ∧ c = 2) ∨
  (l.length ≤ 300 ∧ 0 ≤ lv ∧ lv ≤ 21 ∧ (∀ j, j < l.length → okZ lv.toNat (l.getD j 0)) ∧ wss = levsK lv.toNat l lv.toNat ∧ c = 0)
theorem WaveMk.ex (lv : Int) (l : List Int) : ∃ wss c, WaveMk lv l wss c := by
  by_cases h1 : 300 < l.length
  · exact ⟨_, _, .inl ⟨h1, rfl, rfl⟩⟩
  · by_cases h2 : lv < 0 ∨ 21 < lv
    · exact ⟨_, _, .inr (.inl ⟨by omega, h2, rfl, rfl⟩)⟩
    · by_cases h3 : ∃ j, j < l.length ∧ ¬ okZ lv.toNat (l.getD j 0)
      · exact ⟨_, _, .inr (.inr (.inl ⟨by omega, by omega, by omega, h3, rfl, rfl⟩))⟩
      · exact ⟨_, _, .inr (.inr (.inr ⟨by omega, by omega, by omega, fun j hj => Classical.byContradiction fun h => h3 ⟨j, hj, h⟩, rfl, rfl⟩))⟩
/-- Rows of n bits and a code are returned. -/
def GivesWave (n : Int) (wss : List (List Nat)) (c : Int) (w : World) (e : Ending) (w' : World) : Prop :=
  ∃ v, e = .returned (.tuple #[.agg #[v], .int .i64 c]) ∧ IsRowsB w' w'.heap.size v (wss.map fun ws => (n, ws)) ∧ Below w.heap.size w w'
theorem rowsB_nil (w : World) (B : Nat) (n : Int) : IsRowsB w B (.slice none 0 0) (([] : List (List Nat)).map fun ws => (n, ws)) :=
  ⟨none, 0, [], rfl, by simp, by simp, by simp, Reads.none_, fun i hi => absurd hi (by simp)⟩
end Go.Dam
namespace Go.Proofs.YthiccmncdmohbaaGreat
open Go Go.RowKit Go.Dam
set_option linter.unusedVariables false
theorem el_lv : El Tryz.prog 57 94 (.agg #[.int .i64 0, .slice none 0 0]) 2 32 := ⟨Tryz.underlying57, by kernel_rfl, rfl, by decide⟩
/-- While the levels are made. -/
def WaveSt (w : World) (vb : Nat) (l : List Int) (L t : Nat) (sv nv : Value) (ss : List Value) (wr : World) : Prop :=
  Blk wr w.heap.size 59 #[.slice none 0 0] ∧ Blk wr vb 59 #[sv] ∧ w.heap.size < vb ∧ True ∧ wr.ownsRow w.heap.size 94 2 sv t (lvCells l.length ss) ∧
  OwnWs 115 wr w.heap.size ss (levsK L l t) ∧ wr.ownsRow w.heap.size 3 1 nv l.length ((nowK L l t).map (Value.int .i64)) ∧ Below w.heap.size w wr
theorem own_ne_blk {w : World} {base size n g : Nat} {to e : TypeId} {v : Value} {xs : List Value} {cs : Array Value} (h : w.ownsRow base e size v n xs) (hb : Blk w g to cs) (hne : to ≠ e) : some g ≠ v.ownBlock := by
  intro ee
  rcases h.2 with ⟨rfl, _⟩ | ⟨g2, cap, cur, rfl, _, h2, _⟩
  · cases ee
  · simp only [Value.ownBlock, Option.some.injEq] at ee
    subst ee
    unfold Blk at hb
    rw [h2] at hb
    injection hb with hb
    injection hb with _ ht
    exact hne ht.symm
section
variable {w wr w2 : World} {vb L t : Nat} {l : List Int} {sv nv : Value} {ss : List Value}
theorem WaveSt.alloc (h : WaveSt w vb l L t sv nv ss wr) (o : Obj) : WaveSt w vb l L t sv nv ss (wr.alloc o) := by
  obtain ⟨h1, h2, h3, h4, h5, h6, h7, h8⟩ := h
  exact ⟨h1.alloc o, h2.alloc o, h3, h4, h5.alloc o, h6.alloc o, h7.alloc o, h8.alloc h8.size o⟩
theorem WaveSt.far (h : WaveSt w vb l L t sv nv ss wr) {to : TypeId} {cs : Array Value} {p : Addr} (hp : Blk wr p.block to cs) (n1 : to ≠ 59) (n2 : to ≠ 94) (n3 : to ≠ 115) (n4 : to ≠ 3) (hz : w.heap.size ≤ p.block) (x : Value) : WaveSt w vb l L t sv nv ss (wr.setCell p x) := by
  obtain ⟨h1, h2, h3, h4, h5, h6, h7, h8⟩ := h
  exact ⟨h1.far (Blk.ne_ h1 hp n1.symm) x, h2.far (Blk.ne_ h2 hp n1.symm) x, h3, h4, own_far h5 hp n2 x, h6.far hp n3 x, own_far h7 hp n4 x, h8.setCell hz x⟩
theorem WaveSt.grown (h : WaveSt w vb l L t sv nv ss wr) {v : Value} {n : Nat} {xs : List Value} (ho : wr.ownsRow w.heap.size 3 1 v n xs) (ha : Apart v nv) (hg : wr.grownBy w2 v.ownBlock) : WaveSt w vb l L t sv nv ss w2 := by
  obtain ⟨h1, h2, h3, h4, h5, h6, h7, h8⟩ := h
  exact ⟨h1.grown hg (own_ne_blk ho h1 (by decide)), h2.grown hg (own_ne_blk ho h2 (by decide)), h3, h4, (own_apart ho h5 (by decide)).kept hg h5, h6.grown ho (by decide) hg, ha.kept hg h7, h8.grown hg h8.size (fun k hk => (ho.lt k hk).1)⟩
theorem WaveSt.below (h : WaveSt w vb l L t sv nv ss wr) (hb : Below wr.heap.size wr w2) : WaveSt w vb l L t sv nv ss w2 := by
  obtain ⟨h1, h2, h3, h4, h5, h6, h7, h8⟩ := h
  exact ⟨h1.below hb h1.lt, h2.below hb h2.lt, h3, h4, own_size h5 hb, h6.below hb, own_size h7 hb, h8.trans (hb.mono h8.size)⟩
end
/-- The row of a level's bits while it is made. -/
def rowTo (k : Nat) (m : List Int) (i : Nat) : List Bool := (bitsK k m).take i ++ List.replicate (m.length - i) false
theorem rowTo_0 (k : Nat) (m : List Int) : rowTo k m 0 = List.replicate m.length false := by unfold rowTo; simp
theorem rowTo_len (k : Nat) (m : List Int) {i : Nat} (h : i ≤ m.length) : (rowTo k m i).length = m.length := by
  unfold rowTo; rw [List.length_append, List.length_take, List.length_replicate, bitsK_len]; omega
theorem bitsK_at {k : Nat} {m : List Int} {i : Nat} (h : i < m.length) : (bitsK k m)[i]? = some (bitK k (m.getD i 0)) := by
  unfold bitsK
  rw [List.getElem?_map, List.getElem?_eq_getElem h, List.getD_eq_getElem?_getD, List.getElem?_eq_getElem h]; rfl
theorem rowTo_set {k : Nat} {m : List Int} {i : Nat} (h : i < m.length) {b : Bool} (hb : bitK k (m.getD i 0) = b) : (rowTo k m i).set i b = rowTo k m (i + 1) := by
  unfold rowTo
  have h1 : ((bitsK k m).take i).length = i := by rw [List.length_take, bitsK_len]; omega
  rw [List.set_append_right _ _ (by rw [h1]; exact Nat.le_refl _), h1, Nat.sub_self, show m.length - i = (m.length - (i + 1)) + 1 from by omega, List.replicate_succ, List.set_cons_zero, List.take_add_one, bitsK_at h, hb, List.append_assoc]
  rfl
theorem rowTo_end (k : Nat) (m : List Int) : rowTo k m m.length = bitsK k m := by unfold rowTo; rw [Nat.sub_self, List.replicate_zero, List.append_nil, List.take_of_length_le (by rw [bitsK_len]; exact Nat.le_refl _)]
theorem half_take {k : Nat} {b : Bool} {m : List Int} {i : Nat} (h : i < m.length) : halfK k b (m.take (i + 1)) = if bitK k (m.getD i 0) = b then halfK k b (m.take i) ++ [m.getD i 0] else halfK k b (m.take i) := by
  rw [List.take_add_one, List.getElem?_eq_getElem h, ← halfK_snoc]
  rw [List.getD_eq_getElem?_getD, List.getElem?_eq_getElem h]; rfl
attribute [irreducible] rowTo
/-- While a level is made: its row, and the two halves. -/
def HalfSt (w : World) (vb : Nat) (l : List Int) (L t : Nat) (sv nv : Value) (ss : List Value) (g1 g2 k : Nat) (m : List Int) (i : Nat) (wr : World) : Prop :=
  ∃ v0 v1 : Value, WaveSt w vb l L t sv nv ss wr ∧ Blk wr g1 4 ((rowTo k m i).map Value.bool).toArray ∧ Blk wr g2 91 #[v0, v1] ∧ w.heap.size ≤ g1 ∧ w.heap.size ≤ g2 ∧
    wr.ownsRow w.heap.size 3 1 v0 (halfK k false (m.take i)).length ((halfK k false (m.take i)).map (Value.int .i64)) ∧ wr.ownsRow w.heap.size 3 1 v1 (halfK k true (m.take i)).length ((halfK k true (m.take i)).map (Value.int .i64)) ∧ Apart v0 v1 ∧ Apart v0 nv ∧ Apart v1 nv
/-- The same, the halves by name. -/
def HalfAt (w : World) (vb : Nat) (l : List Int) (L t : Nat) (sv nv : Value) (ss : List Value) (g1 g2 k : Nat) (m : List Int) (j i : Nat) (v0 v1 : Value) (wr : World) : Prop :=
  WaveSt w vb l L t sv nv ss wr ∧ Blk wr g1 4 ((rowTo k m j).map Value.bool).toArray ∧ Blk wr g2 91 #[v0, v1] ∧ w.heap.size ≤ g1 ∧ w.heap.size ≤ g2 ∧
    wr.ownsRow w.heap.size 3 1 v0 (halfK k false (m.take i)).length ((halfK k false (m.take i)).map (Value.int .i64)) ∧ wr.ownsRow w.heap.size 3 1 v1 (halfK k true (m.take i)).length ((halfK k true (m.take i)).map (Value.int .i64)) ∧ Apart v0 v1 ∧ Apart v0 nv ∧ Apart v1 nv
section
variable {w wr w2 : World} {vb L t g1 g2 k i : Nat} {l m : List Int} {sv nv v0 v1 v' : Value} {ss : List Value}
theorem HalfAt.row (h : HalfAt w vb l L t sv nv ss g1 g2 k m i i v0 v1 wr) (hi : i < m.length) {b : Bool} (hb : bitK k (m.getD i 0) = b) (o : Obj) : HalfAt w vb l L t sv nv ss g1 g2 k m (i + 1) i v0 v1 ((wr.setCell ⟨g1, i, none⟩ (.bool b)).alloc o) := by
  obtain ⟨h1, h2, h3, h4, h5, h6, h7, h8⟩ := h
  refine ⟨(h1.far (p := ⟨g1, i, none⟩) h2 (by decide) (by decide) (by decide) (by decide) h4 _).alloc o, ?_, (h3.far (p := ⟨g1, i, none⟩) (Blk.ne_ h3 h2 (by decide)) _).alloc o, h4, h5, (own_far (p := ⟨g1, i, none⟩) h6 h2 (by decide) _).alloc o, (own_far (p := ⟨g1, i, none⟩) h7 h2 (by decide) _).alloc o, h8⟩
  refine Blk.alloc ?_ o
  have := h2.set_ i (.bool b)
  rw [← rowTo_set hi hb]
  simpa [List.map_set] using this
theorem HalfAt.no (h : HalfAt w vb l L t sv nv ss g1 g2 k m (i + 1) i v0 v1 wr) (hi : i < m.length) (hb : bitK k (m.getD i 0) = false) (ho : w2.ownsRow w.heap.size 3 1 v' ((halfK k false (m.take i)).length + 1) ((halfK k false (m.take i)).map (Value.int .i64) ++ [.int .i64 (m.getD i 0)]))
    (hg : wr.grownBy w2 v0.ownBlock) (hl : LiesOr wr.heap.size v0 v') : HalfSt w vb l L t sv nv ss g1 g2 k m (i + 1) (w2.setCell ⟨g2, 0, none⟩ v') := by
  obtain ⟨h1, h2, h3, h4, h5, h6, h7, h8, h9, h10⟩ := h
  have b1 := h2.grown hg (own_ne_blk h6 h2 (by decide))
  have b2 := h3.grown hg (own_ne_blk h6 h3 (by decide))
  have hnv := h1.2.2.2.2.2.2.1
  refine ⟨v', v1, (h1.grown h6 h9 hg).far (p := ⟨g2, 0, none⟩) b2 (by decide) (by decide) (by decide) (by decide) h5 _, b1.far (p := ⟨g2, 0, none⟩) (Blk.ne_ b1 b2 (by decide)) _, b2.set_ 0 v', h4, h5, ?_, ?_, h8.grow hl h7, h9.grow hl hnv, h10⟩
  · rw [half_take hi, if_pos hb, List.length_append, List.map_append]
    exact own_far (p := ⟨g2, 0, none⟩) ho b2 (by decide) _
  · rw [half_take hi, if_neg (by rw [hb]; decide)]
    exact own_far (p := ⟨g2, 0, none⟩) (h8.kept hg h7) b2 (by decide) _
theorem HalfAt.yes (h : HalfAt w vb l L t sv nv ss g1 g2 k m (i + 1) i v0 v1 wr) (hi : i < m.length) (hb : bitK k (m.getD i 0) = true) (ho : w2.ownsRow w.heap.size 3 1 v' ((halfK k true (m.take i)).length + 1) ((halfK k true (m.take i)).map (Value.int .i64) ++ [.int .i64 (m.getD i 0)]))
    (hg : wr.grownBy w2 v1.ownBlock) (hl : LiesOr wr.heap.size v1 v') : HalfSt w vb l L t sv nv ss g1 g2 k m (i + 1) (w2.setCell ⟨g2, 1, none⟩ v') := by
  obtain ⟨h1, h2, h3, h4, h5, h6, h7, h8, h9, h10⟩ := h
  have b1 := h2.grown hg (own_ne_blk h7 h2 (by decide))
  have b2 := h3.grown hg (own_ne_blk h7 h3 (by decide))
  have hnv := h1.2.2.2.2.2.2.1
  refine ⟨v0, v', (h1.grown h7 h10 hg).far (p := ⟨g2, 1, none⟩) b2 (by decide) (by decide) (by decide) (by decide) h5 _, b1.far (p := ⟨g2, 1, none⟩) (Blk.ne_ b1 b2 (by decide)) _, b2.set_ 1 v', h4, h5, ?_, ?_, (h8.symm.grow hl h6).symm, h9, h10.grow hl hnv⟩
  · rw [half_take hi, if_neg (by rw [hb]; decide)]
    exact own_far (p := ⟨g2, 1, none⟩) (h8.symm.kept hg h6) b2 (by decide) _
  · rw [half_take hi, if_pos hb, List.length_append, List.map_append]
    exact own_far (p := ⟨g2, 1, none⟩) ho b2 (by decide) _
theorem and1_i64 {x : Int} {b : Nat} (h0 : 0 ≤ x) (h1 : x < 9223372036854775807) (hb : x % 2 = b) : bits .and .i64 x 1 = (b : Int) := by
  obtain ⟨a, rfl⟩ := Int.eq_ofNat_of_zero_le h0
  have := and_i64 (a : Int) a 1 rfl (by omega) (by decide)
  rw [Nat.and_one_is_mod] at this
  have e : ((1 : Nat) : Int) = 1 := rfl
  rw [e] at this
  rw [this]; omega
end
section
variable {w wr w2 : World} {vb L t g1 g2 k i j : Nat} {l m : List Int} {sv nv v0 v1 v' sv' s : Value} {ss : List Value} {ws : List Nat}
theorem HalfAt.below (h : HalfAt w vb l L t sv nv ss g1 g2 k m j i v0 v1 wr) (hb : Below wr.heap.size wr w2) : HalfAt w vb l L t sv nv ss g1 g2 k m j i v0 v1 w2 := by
  obtain ⟨h1, h2, h3, h4, h5, h6, h7, h8⟩ := h
  exact ⟨h1.below hb, h2.below hb h2.lt, h3.below hb h3.lt, h4, h5, own_size h6 hb, own_size h7 hb, h8⟩
theorem HalfAt.alloc (h : HalfAt w vb l L t sv nv ss g1 g2 k m j i v0 v1 wr) (o : Obj) : HalfAt w vb l L t sv nv ss g1 g2 k m j i v0 v1 (wr.alloc o) := by
  obtain ⟨h1, h2, h3, h4, h5, h6, h7, h8⟩ := h
  exact ⟨h1.alloc o, h2.alloc o, h3.alloc o, h4, h5, h6.alloc o, h7.alloc o, h8⟩
theorem cells_new {w : World} {t : TypeId} {cs : List Value} {g : Nat} (hg : g = w.heap.size) : ∀ j u, cs[j]? = some u → (w.alloc (.cells cs.toArray t)).cell? ((⟨g, 0, none⟩ : Addr).add j) = some u := fun j u hu => by
  subst hg
  rw [add_zero_addr, cell_of_row _ _ j _ _ _ (heap_alloc_new w _), ← hu]; simp
theorem OwnWords.alloc {w : World} {base : Nat} {s : Value} {ws : List Nat} (h : OwnWords w base s ws) (o : Obj) : OwnWords (w.alloc o) base s ws := ⟨h.1.alloc o, h.2⟩
theorem HalfAt.old {w wr w2 : World} {vb L t g1 g2 k i j : Nat} {l m : List Int} {sv nv v0 v1 : Value} {ss : List Value} (h : HalfAt w vb l L t sv nv ss g1 g2 k m j i v0 v1 wr) (hg : wr.grownBy w2 sv.ownBlock) :
    w2.cell? ⟨vb, 0, none⟩ = some sv ∧ w2.frozen? ⟨vb, 0, none⟩ = false ∧ w2.cell? ⟨g2, 0, none⟩ = some v0 ∧ w2.cell? ⟨g2, 1, none⟩ = some v1 := by
  have b2 := h.1.2.1.grown hg (own_ne_blk h.1.2.2.2.2.1 h.1.2.1 (by decide))
  have b3 := h.2.2.1.grown hg (own_ne_blk h.1.2.2.2.2.1 h.2.2.1 (by decide))
  exact ⟨(b2.cell 0).trans rfl, b2.frozen 0, (b3.cell 0).trans rfl, (b3.cell 1).trans rfl⟩
/-- The level is put behind the others; the halves are not yet joined. -/
def LvSt (w : World) (vb : Nat) (l : List Int) (L t : Nat) (sv : Value) (ss : List Value) (g2 k : Nat) (m : List Int) (v0 v1 : Value) (wr : World) : Prop :=
  Blk wr w.heap.size 59 #[.slice none 0 0] ∧ Blk wr vb 59 #[sv] ∧ w.heap.size < vb ∧ wr.ownsRow w.heap.size 94 2 sv t (lvCells l.length ss) ∧
  OwnWs 115 wr w.heap.size ss (levsK L l t) ∧ Below w.heap.size w wr ∧ Blk wr g2 91 #[v0, v1] ∧
  wr.ownsRow w.heap.size 3 1 v0 (halfK k false m).length ((halfK k false m).map (Value.int .i64)) ∧ wr.ownsRow w.heap.size 3 1 v1 (halfK k true m).length ((halfK k true m).map (Value.int .i64)) ∧ Apart v0 v1
theorem HalfAt.level (h : HalfAt w vb l L t sv nv ss g1 g2 k m j i v0 v1 wr) (hi : m.length ≤ i) (hws : ws = wordsK L l t) {base' : Nat} (hb' : w.heap.size ≤ base') (ho' : OwnWords wr base' s ws)
    (ho : w2.ownsRow w.heap.size 94 2 sv' (t + 1) (lvCells l.length ss ++ [.int .i64 l.length, s])) (hg : wr.grownBy w2 sv.ownBlock) : LvSt w vb l L (t + 1) sv' (ss ++ [s]) g2 k m v0 v1 (w2.setCell ⟨vb, 0, none⟩ sv') := by
  obtain ⟨⟨h1, h2, h3, _, h5, h6, h7, h8⟩, q2, q3, q4, q5, q6, q7, q8, q9, q10⟩ := h
  rw [List.take_of_length_le hi] at q6 q7
  have b2 := h2.grown hg (own_ne_blk h5 h2 (by decide))
  have b3 := q3.grown hg (own_ne_blk h5 q3 (by decide))
  have ow : w2.ownsRow w.heap.size 115 1 s ws.length (ws.map wordV) := Go.Joins.ownsRow_le ((own_apart h5 ho'.1 (by decide)).kept hg ho'.1) hb'
  refine ⟨(h1.grown hg (own_ne_blk h5 h1 (by decide))).far (p := ⟨vb, 0, none⟩) (by show w.heap.size ≠ vb; omega) _, b2.set_ 0 sv', h3, ?_, ?_, (h8.grown hg h8.size (fun k hk => (h5.lt k hk).1)).setCell (p := ⟨vb, 0, none⟩) (by show w.heap.size ≤ vb; omega) _, b3.far (p := ⟨vb, 0, none⟩) (Blk.ne_ b3 b2 (by decide)) _, own_far (p := ⟨vb, 0, none⟩) ((own_apart h5 q6 (by decide)).kept hg q6) b2 (by decide) _, own_far (p := ⟨vb, 0, none⟩) ((own_apart h5 q7 (by decide)).kept hg q7) b2 (by decide) _, q8⟩
  · rw [lvCells_snoc]; exact own_far (p := ⟨vb, 0, none⟩) ho b2 (by decide) _
  · rw [levsK_succ, ← hws]
    exact ((h6.grown h5 (by decide) hg).push ow ho'.2.1 ho'.2.2).far (p := ⟨vb, 0, none⟩) b2 (by decide) _
theorem LvSt.done (h : LvSt w vb l L (t + 1) sv ss g2 k m v0 v1 wr) (hk : L - 1 - t = k) (hm : nowK L l t = m) (hl : m.length = l.length)
    (ho : w2.ownsRow w.heap.size 3 1 v' ((halfK k false m).length + (halfK k true m).length) ((halfK k false m).map (Value.int .i64) ++ (halfK k true m).map (Value.int .i64))) (hg : wr.grownBy w2 v0.ownBlock) : WaveSt w vb l L (t + 1) sv v' ss w2 := by
  obtain ⟨h1, h2, h3, h4, h5, h6, h7, h8, h9, h10⟩ := h
  have e : nowK L l (t + 1) = halfK k false m ++ halfK k true m := by
    rw [nowK_succ, hk, hm]; unfold partK; rfl
  have e2 : (halfK k false m).length + (halfK k true m).length = l.length := by
    rw [← List.length_append, ← e, nowK_len]
  rw [e2, ← List.map_append, ← e] at ho
  exact ⟨h1.grown hg (own_ne_blk h8 h1 (by decide)), h2.grown hg (own_ne_blk h8 h2 (by decide)), h3, trivial, (own_apart h8 h4 (by decide)).kept hg h4, h5.grown h8 (by decide) hg, ho, h6.grown hg h6.size (fun k hk => (h8.lt k hk).1)⟩
end
set_option maxRecDepth 100000 in
set_option maxHeartbeats 4000000 in
theorem waveMake_any (lv : Int) (v : Value) (l : List Int) (wss : List (List Nat)) (cc : Int) (w : World) (B : Nat) (hB : B ≤ w.heap.size) (h : IsInts .i64 w B v l) (hlv : I64 lv) (hR : WaveMk lv l wss cc) :
    Calls Tryz.prog 30 #[.int .i64 lv, v] w (GivesWave l.length wss cc w) := by
  obtain ⟨A, c, rfl, hc, hm, hn, hr, hw⟩ := h
  unfold I64 at hlv
  rcases hR with ⟨h1, rfl, rfl⟩ | ⟨h1, h2, rfl, rfl⟩ | ⟨h1, h2, h3, hbad, rfl, rfl⟩ | ⟨h1, h2, h3, hok, rfl, rfl⟩
  · clear hr hw
    go_enter Tryz.func30, Tryz.ntmps30
    go_wp2_with fail
    exact bodyPost_ret (v := .tuple #[.agg #[.slice none 0 0], .int .i64 1]) (by simp [results, Tryz.results30, go_sem]) rfl ⟨_, rfl, rowsB_nil _ _ _, by first | exact (Below.refl _ _).alloc (Nat.le_refl _) _ | exact ((Below.refl _ _).alloc (Nat.le_refl _) _).setCell (p := ⟨w.heap.size, 0, none⟩) (Nat.le_refl _) _⟩
  · clear hr hw
    rcases h2 with h2 | h2
    all_goals
      go_enter Tryz.func30, Tryz.ntmps30
      go_wp2_with fail
      exact bodyPost_ret (v := .tuple #[.agg #[.slice none 0 0], .int .i64 2]) (by simp [results, Tryz.results30, go_sem]) rfl ⟨_, rfl, rowsB_nil _ _ _, by first | exact (Below.refl _ _).alloc (Nat.le_refl _) _ | exact ((Below.refl _ _).alloc (Nat.le_refl _) _).setCell (p := ⟨w.heap.size, 0, none⟩) (Nat.le_refl _) _⟩
  · obtain ⟨L, rfl⟩ := Int.eq_ofNat_of_zero_le h2
    obtain ⟨f, hf, hbadf⟩ := hbad
    rw [Int.toNat_natCast] at hbadf
    have hL : L ≤ 21 := by omega
    have hQb : (2 : Int) ^ L ≤ 2097152 := by
      have := Nat.pow_le_pow_right (show 0 < 2 by decide) hL
      have e : ((2 ^ L : Nat) : Int) = (2 : Int) ^ L := by simp
      omega
    have hQ0 : (1 : Int) ≤ (2 : Int) ^ L := by
      have := Nat.pow_le_pow_right (show 0 < 2 by decide) (Nat.zero_le L)
      have e : ((2 ^ L : Nat) : Int) = (2 : Int) ^ L := by simp
      omega
    have HF : Hid (¬ okZ L (l.getD f 0)) := Lib.hid hbadf
    have HW := Lib.hid hw
    generalize hQ : (2 : Int) ^ L = Q at *
    have HQ := Lib.hid hQ
    clear hbadf hw
    go_enter Tryz.func30, Tryz.ntmps30
    go_wp2_with fail
    go_loopw [7, 31] (fun _ iv wr => ∃ i : Nat, i ≤ f ∧ iv = .int .i64 i ∧ Below w.heap.size w wr ∧ Blk wr w.heap.size 59 #[.slice none 0 0]) (fun _ iv _ => f + 1 - (intOf iv).toNat)
    case atStart => exact ⟨0, by omega, rfl, (Below.refl _ _).alloc (Nat.le_refl _) _, Blk.new _ _ _⟩
    case round =>
      obtain ⟨i, hi, rfl, hbel, hblk⟩ := hrel
      obtain ⟨b, off, rfl, hb, hcells⟩ := ints_cells hr (by omega)
      have k0 := (hbel.cell (p := ⟨b, off + i, none⟩) (by simp; omega)).trans (hcells i (by omega))
      have hz := wf_i64 (HW.out _ (getD_in l (by omega)))
      by_cases hok : okZ L (l.getD i 0)
      · have hif : i ≠ f := fun e => HF.out (by rw [← e]; exact hok)
        obtain ⟨o1, o2⟩ := hok
        rw [HQ.out] at o2
        generalize l.getD i 0 = x at *
        have HB := Lib.hid hbel
        have HK := Lib.hid hblk
        have t1 : (0 : Int) < x / Q ↔ False := by
          constructor
          · intro h; have := Int.ediv_eq_zero_of_lt o1 o2; omega
          · exact False.elim
        clear hcells hbel hblk
        go_wp2_with fail
        go_roundw
        case rel => exact ⟨i + 1, by omega, by go_num, HB.out, HK.out⟩
        case measure => simp [intOf]; omega
      · have hbad : l.getD i 0 < 0 ∨ (0 ≤ l.getD i 0 ∧ Q ≤ l.getD i 0) := by
          unfold okZ at hok; rw [HQ.out] at hok; omega
        generalize l.getD i 0 = x at *
        have HB := Lib.hid hbel
        have f0 := hblk.frozen 0
        have c0 : wr.cell? ⟨w.heap.size, 0, none⟩ = some (.slice none 0 0) := by rw [hblk.cell]; rfl
        have c1 : Hid (_ = some (Value.slice none 0 0)) := Lib.hid (((hblk.set_ 0 (.slice none 0 0)).cell 0).trans rfl)
        clear hcells hbel hblk hok
        rcases hbad with hbad | ⟨hb0, hbad⟩
        · go_wp2_with fail
          exact bodyPost_ret (v := .tuple #[.agg #[.slice none 0 0], .int .i64 2]) (by have c1 := c1.out; simp [results, Tryz.results30, go_sem, c1]) rfl ⟨_, rfl, rowsB_nil _ _ _, (HB.out.setCell (p := ⟨w.heap.size, 0, none⟩) (Nat.le_refl _) _)⟩
        · have t1 : 0 < x / Q := by
            have h1 : Q / Q ≤ x / Q := Int.ediv_le_ediv (by omega) hbad
            rw [Int.ediv_self (by omega)] at h1
            omega
          go_wp2_with fail
          exact bodyPost_ret (v := .tuple #[.agg #[.slice none 0 0], .int .i64 2]) (by have c1 := c1.out; simp [results, Tryz.results30, go_sem, c1]) rfl ⟨_, rfl, rowsB_nil _ _ _, (HB.out.setCell (p := ⟨w.heap.size, 0, none⟩) (Nat.le_refl _) _)⟩
  · obtain ⟨L, rfl⟩ := Int.eq_ofNat_of_zero_le h2
    rw [Int.toNat_natCast] at hok ⊢
    have hL : L ≤ 21 := by omega
    have hQb : (2 : Int) ^ L ≤ 2097152 := by
      have := Nat.pow_le_pow_right (show 0 < 2 by decide) hL
      have e : ((2 ^ L : Nat) : Int) = (2 : Int) ^ L := by simp
      omega
    have hQ0 : (1 : Int) ≤ (2 : Int) ^ L := by
      have := Nat.pow_le_pow_right (show 0 < 2 by decide) (Nat.zero_le L)
      have e : ((2 ^ L : Nat) : Int) = (2 : Int) ^ L := by simp
      omega
    have HOk : Hid (∀ z ∈ l, 0 ≤ z ∧ z < 2097152) := Lib.hid fun z hz => by
      obtain ⟨j, hj, rfl⟩ := List.mem_iff_getElem.1 hz
      have := hok j hj
      unfold okZ at this
      rw [List.getD_eq_getElem?_getD, List.getElem?_eq_getElem hj] at this
      simp only [Option.getD_some] at this
      omega
    generalize hQ : (2 : Int) ^ L = Q at *
    have HOk2 : Hid (∀ j, j < l.length → 0 ≤ l.getD j 0 ∧ l.getD j 0 < Q) := Lib.hid fun j hj => by have := hok j hj; unfold okZ at this; rw [hQ] at this; exact this
    clear hok hw
    go_enter Tryz.func30, Tryz.ntmps30
    go_wp2_with fail
    go_loopw [7, 31] (fun _ iv wr => ∃ i : Nat, i ≤ l.length ∧ iv = .int .i64 i ∧ Below w.heap.size w wr ∧ Blk wr w.heap.size 59 #[.slice none 0 0]) (fun _ iv _ => l.length - (intOf iv).toNat)
    case atStart => exact ⟨0, by omega, rfl, (Below.refl _ _).alloc (Nat.le_refl _) _, Blk.new _ _ _⟩
    case round =>
      obtain ⟨i, hi, rfl, hbel, hblk⟩ := hrel
      by_cases hlt : i < l.length
      · obtain ⟨b, off, rfl, hb, hcells⟩ := ints_cells hr (by omega)
        have k0 := (hbel.cell (p := ⟨b, off + i, none⟩) (by simp; omega)).trans (hcells i (by omega))
        obtain ⟨o1, o2⟩ := HOk2.out i hlt
        generalize l.getD i 0 = x at *
        have HB := Lib.hid hbel
        have HK := Lib.hid hblk
        have t1 : (0 : Int) < x / Q ↔ False := by
          constructor
          · intro h; have := Int.ediv_eq_zero_of_lt o1 o2; omega
          · exact False.elim
        clear hcells hbel hblk
        go_wp2_with fail
        go_roundw
        case rel => exact ⟨i + 1, by omega, by go_num, HB.out, HK.out⟩
        case measure => simp [intOf]; omega
      · obtain rfl : i = l.length := by omega
        have HB := Lib.hid hbel
        have HK := Lib.hid hblk
        have hzz := hbel.size
        have hbl := hblk.lt
        have HRd := Lib.hid ((hr.below (hbel.mono hB)).alloc (by omega) (.cells #[.slice none 0 0] 59))
        clear hbel hblk hQ hr
        obtain ⟨wo, rfl⟩ : ∃ wo : World, wo = wr := ⟨_, rfl⟩
        go_wp2_with (at_builtin; refine wpList_copyReads el_int rfl _ _ rfl rfl B A l.length c _ HRd.out rfl (fun y hy => by obtain ⟨z, _, rfl⟩ := List.mem_map.1 hy; rfl) (by omega) (by omega) ?_; intro v2 w2 hown2 hg2; have HO2 := Lib.hid hown2; have HG2 := Lib.hid hg2; clear hown2 hg2)
        have hz2 := HG2.out.size
        simp at hz2
        have HSt : Hid (WaveSt w wo.heap.size l L 0 (.slice none 0 0) v2 [] w2) := Lib.hid (by
          refine ⟨(HK.out.alloc _).grown HG2.out (by simp), (Blk.new _ _ _).grown HG2.out (by simp), hbl, trivial, by rw [lvCells_nil]; exact World.ownsRow_nil _ _ _ _, by rw [levsK_0]; exact OwnWs.nil _ _ _, ?_, (HB.out.alloc hzz _).grown HG2.out (by simp; omega) (fun k hk => by cases hk)⟩
          rw [nowK_0]; exact Go.Joins.ownsRow_le HO2.out (by simp; omega))
        clear HB HK HRd HO2 HG2 HOk2
        go_loopw [9, 10] (fun nv kv wr => ∃ (t : Nat) (sv : Value) (ss : List Value), t ≤ L ∧ kv = .int .i64 ((L : Int) - 1 - t) ∧ WaveSt w wo.heap.size l L t sv nv ss wr) (fun _ kv _ => (intOf kv + 1).toNat)
        case atStart => exact ⟨0, _, _, by omega, by congr 1 <;> omega, HSt.out⟩
        case round =>
          obtain ⟨t, sv, ss, ht, rfl, hst⟩ := hrel
          have HSt := Lib.hid hst
          have hbel := hst.2.2.2.2.2.2.2
          have hz3 := hbel.size
          have hvb := hst.2.1.lt
          by_cases hlt : t < L
          · have hnow := hst.2.2.2.2.2.2.1
            obtain ⟨A2, c2, rfl⟩ := own_shape hnow
            have hml : (nowK L l t).length = l.length := nowK_len L l t
            have HMem : Hid (∀ z ∈ nowK L l t, 0 ≤ z ∧ z < 2097152) := Lib.hid fun z hz => HOk.out z (nowK_mem t hz)
            generalize hm' : nowK L l t = m at *
            have HM := Lib.hid hm'
            have hmk := fun w' => run_make1 el_bool rfl l.length l.length rfl (by omega) (by omega) w'
            simp only [falsesV_eq] at hmk
            have t0 : decide ((t : Int) ≤ (L : Int) - 1) = true := by simp; omega
            clear hst hbel hnow hm'
            go_wp2_with fail
            obtain ⟨k, ek⟩ : ∃ k : Nat, (L : Int) - 1 - t = k := ⟨L - 1 - t, by omega⟩
            rw [ek]
            have hkL : L - 1 - t = k := by omega
            have HKL := Lib.hid hkL
            have hk20 : k ≤ 20 := by omega
            have hpb : (2 : Int) ^ k ≤ 1048576 := by
              have := Nat.pow_le_pow_right (show 0 < 2 by decide) hk20
              have e : ((2 ^ k : Nat) : Int) = (2 : Int) ^ k := by simp
              omega
            have hp0 : (1 : Int) ≤ (2 : Int) ^ k := by
              have := Nat.pow_le_pow_right (show 0 < 2 by decide) (Nat.zero_le k)
              have e : ((2 ^ k : Nat) : Int) = (2 : Int) ^ k := by simp
              omega
            generalize hq : (2 : Int) ^ k = q at *
            have HH : Hid (HalfSt w wo.heap.size l L t sv (.slice A2 l.length c2) ss wr.heap.size (wr.heap.size + 1) k m 0 ((wr.alloc (.cells (falsesV l.length) 4)).alloc (.cells #[.slice none 0 0, .slice none 0 0] 91))) := Lib.hid (by
              refine ⟨_, _, (HSt.out.alloc _).alloc _, ?_, Blk.new_at _ _ _ _ (by simp), hz3, by omega, ?_, ?_, Apart.nil _, Apart.nil _, Apart.nil _⟩
              · rw [rowTo_0, hml, List.map_replicate, falsesV_eq]; exact (Blk.new _ _ _).alloc _
              · rw [List.take_zero]; unfold halfK; exact World.ownsRow_nil _ _ _ _
              · rw [List.take_zero]; unfold halfK; exact World.ownsRow_nil _ _ _ _)
            clear hkL ek
            obtain ⟨wq, rfl⟩ : ∃ wq : World, wq = wr := ⟨_, rfl⟩
            go_loopw [13, 14, 15, 58] (fun _ _ _ iv w3 => ∃ i : Nat, i ≤ l.length ∧ iv = .int .i64 i ∧ HalfSt w wo.heap.size l L t sv (.slice A2 l.length c2) ss wq.heap.size (wq.heap.size + 1) k m i w3) (fun _ _ _ iv _ => l.length - (intOf iv).toNat)
            case atStart => exact ⟨0, by omega, rfl, HH.out⟩
            case round =>
              obtain ⟨i, hi, rfl, v0, v1, hat⟩ := hrel
              have HAt : Hid (HalfAt w wo.heap.size l L t sv (.slice A2 l.length c2) ss wq.heap.size (wq.heap.size + 1) k m i i v0 v1 wr) := Lib.hid hat
              obtain ⟨hws, hrow, hhv, _, _, ho0, ho1, _, _, _⟩ := hat
              have hnow := hws.2.2.2.2.2.2.1
              have hl0 := halfK_len k false (m.take i)
              have hl1 := halfK_len k true (m.take i)
              have htl : (m.take i).length ≤ i := by rw [List.length_take]; omega
              have f1 := hrow.frozen i
              have f20 := hhv.frozen 0
              have f21 := hhv.frozen 1
              have c20 : wr.cell? ⟨wq.heap.size + 1, 0, none⟩ = some v0 := by rw [hhv.cell]; rfl
              have c21 : wr.cell? ⟨wq.heap.size + 1, 1, none⟩ = some v1 := by rw [hhv.cell]; rfl
              by_cases hlt2 : i < l.length
              · obtain ⟨g, cap4, hv, _, _⟩ := hnow.form (by omega)
                obtain ⟨rfl, rfl⟩ : A2 = some ⟨g, 0, none⟩ ∧ c2 = cap4 := by injection hv with a b c; exact ⟨a, c⟩
                have k0 : wr.cell? ⟨g, i, none⟩ = some (.int .i64 (m.getD i 0)) := by
                  rw [hnow.cellAt i (by omega), HM.out]
                  rw [List.getElem?_map, List.getElem?_eq_getElem (by omega), List.getD_eq_getElem?_getD, List.getElem?_eq_getElem (by omega)]; rfl
                have k1 : wr.cell? ⟨wq.heap.size, i, none⟩ = some (.bool ((rowTo k m i).getD i false)) := by
                  have hll := rowTo_len k m (i := i) (by omega)
                  rw [hrow.cell]
                  simp [List.getD_eq_getElem?_getD, List.getElem?_eq_getElem (show i < (rowTo k m i).length by omega)]
                have hxx := HMem.out (m.getD i 0) (getD_in m (by omega))
                have hdv : 0 ≤ m.getD i 0 / q := Int.ediv_nonneg hxx.1 (by omega)
                have hdv2 : m.getD i 0 / q < 2097152 := by
                  have := Int.ediv_le_self q hxx.1
                  omega
                have HQq := Lib.hid hq
                generalize (rowTo k m i).getD i false = rb at *
                clear hws hrow hhv hnow hv
                by_cases hb : bitK k (m.getD i 0) = true
                · have e1 := and1_i64 (x := m.getD i 0 / q) (b := 1) hdv (by omega) (by have := bitK_yes hb; rw [HQq.out] at this; exact this)
                  have HBit := Lib.hid hb
                  have HRw := Lib.hid fun (o : Obj) => HAt.out.row (b := true) (by omega) hb o
                  obtain ⟨AV, cv, rfl⟩ := own_shape ho1
                  generalize hx : m.getD i 0 = x at *
                  have HXe := Lib.hid hx
                  clear hx hb
                  go_wp2_with (at_builtin; refine wpList_pushD el_int rfl (.tmp 75) (.tmp 77) rfl w.heap.size _ (halfK k true (m.take i)).length _ (HRw.out (.cells #[.int .i64 x] 3)).2.2.2.2.2.2.1 rfl wr.heap.size 1 _ rfl (new_cell (by simp)) rfl (by omega) (by omega) (HRw.out _).1.2.2.2.2.2.2.2.size ?_; intro v5 w5 hown5 hg5 hl5; obtain ⟨A7, c7, rfl⟩ := own_shape hown5; have HX := Lib.hid (HalfAt.yes (HRw.out (.cells #[.int .i64 x] 3)) (by omega) (by rw [HXe.out]; exact HBit.out) (by rw [HXe.out]; exact hown5) hg5 hl5); have b2 := (HRw.out (.cells #[.int .i64 x] 3)).2.2.1.grown hg5 (own_ne_blk (HRw.out (.cells #[.int .i64 x] 3)).2.2.2.2.2.2.1 (HRw.out (.cells #[.int .i64 x] 3)).2.2.1 (by decide)); have f5 := b2.frozen 1; have c5 := (b2.cell 1).trans (show _ = some (Value.slice AV (halfK k true (m.take i)).length cv) from rfl); clear b2 hown5 hg5 hl5)
                  go_roundw
                  case rel => exact ⟨i + 1, by omega, by go_num, HX.out⟩
                  case measure => simp [intOf]; omega
                · replace hb : bitK k (m.getD i 0) = false := by simpa using hb
                  have e1 := and1_i64 (x := m.getD i 0 / q) (b := 0) hdv (by omega) (by have := bitK_no hb; rw [HQq.out] at this; exact this)
                  have HBit := Lib.hid hb
                  have HRw := Lib.hid fun (o : Obj) => HAt.out.row (b := false) (by omega) hb o
                  obtain ⟨AV, cv, rfl⟩ := own_shape ho0
                  generalize hx : m.getD i 0 = x at *
                  have HXe := Lib.hid hx
                  clear hx hb
                  go_wp2_with (at_builtin; refine wpList_pushD el_int rfl (.tmp 75) (.tmp 77) rfl w.heap.size _ (halfK k false (m.take i)).length _ (HRw.out (.cells #[.int .i64 x] 3)).2.2.2.2.2.1 rfl wr.heap.size 1 _ rfl (new_cell (by simp)) rfl (by omega) (by omega) (HRw.out _).1.2.2.2.2.2.2.2.size ?_; intro v5 w5 hown5 hg5 hl5; obtain ⟨A7, c7, rfl⟩ := own_shape hown5; have HX := Lib.hid (HalfAt.no (HRw.out (.cells #[.int .i64 x] 3)) (by omega) (by rw [HXe.out]; exact HBit.out) (by rw [HXe.out]; exact hown5) hg5 hl5); have b2 := (HRw.out (.cells #[.int .i64 x] 3)).2.2.1.grown hg5 (own_ne_blk (HRw.out (.cells #[.int .i64 x] 3)).2.2.2.2.2.1 (HRw.out (.cells #[.int .i64 x] 3)).2.2.1 (by decide)); have f5 := b2.frozen 0; have c5 := (b2.cell 0).trans (show _ = some (Value.slice AV (halfK k false (m.take i)).length cv) from rfl); clear b2 hown5 hg5 hl5)
                  go_roundw
                  case rel => exact ⟨i + 1, by omega, by go_num, HX.out⟩
                  case measure => simp [intOf]; omega
              · obtain rfl : i = l.length := by omega
                have hz5 := hws.2.2.2.2.2.2.2.size
                have hvw := hws.2.1.lt
                have hgw := hhv.lt
                have hbl : (bitsK k m).length = l.length := by rw [bitsK_len]; exact hml
                have hrow2 : Blk wr wq.heap.size 4 ((bitsK k m).map Value.bool).toArray := by
                  have := hrow; rw [← hml, rowTo_end] at this; exact this
                rw [List.take_of_length_le (by omega)] at hl0 hl1
                have HBo := Lib.hid (own_bools (own_of_blk (base := 0) (n := l.length) hrow2 (Nat.zero_le _) (by rw [List.length_map]; exact hbl) (by omega)) (by omega))
                have HMk := Lib.hid (makeO_any _ _ wr _ (Nat.le_refl _) HBo.out (by omega))
                have HWs : Hid (packW (bitsK k m) ((l.length + 63) / 64) l.length = wordsK L l t) := Lib.hid (by
                  unfold wordsK; rw [HKL.out, HM.out])
                rw [hbl] at HMk
                clear hws hrow hhv hnow ho0 ho1 hrow2 hbl f1 f20 f21 c20 c21
                generalize packW (bitsK k m) ((l.length + 63) / 64) l.length = ws at *
                obtain ⟨A9, c9, rfl⟩ := own_shape HAt.out.1.2.2.2.2.1
                have htk : m.take l.length = m := List.take_of_length_le (by omega)
                obtain ⟨B0, d0, rfl⟩ := own_shape (n := (halfK k false m).length) (by have := HAt.out.2.2.2.2.2.1; rw [htk] at this; exact this)
                obtain ⟨B1, d1, rfl⟩ := own_shape (n := (halfK k true m).length) (by have := HAt.out.2.2.2.2.2.2.1; rw [htk] at this; exact this)
                clear htk
                go_wp2_with (first
                  | (go_at_call 46; refine (HMk.out).mono ?_; rintro e w4 ⟨s4, rfl, how4, hb4⟩; have HOw4 := Lib.hid how4; have HA4 := Lib.hid (HAt.out.below hb4); have hz4 := hb4.size; have c4 : ∀ o, (w4.alloc o).cell? ⟨wo.heap.size, 0, none⟩ = some (.slice A9 t c9) := fun o => ((HA4.out.alloc o).1.2.1.cell 0).trans rfl; obtain ⟨A8, c8, rfl⟩ := own_shape how4.1; clear how4 hb4)
                  | (at_builtin; refine wpList_pushM el_lv rfl (.tmp 87) (.tmp 89) rfl w.heap.size _ t _ ((HA4.out.alloc _).alloc _).1.2.2.2.2.1 rfl ⟨w4.heap.size + 1, 0, none⟩ 1 1 [.int .i64 l.length, .slice A8 ws.length c8] rfl rfl (cells_new (by simp)) (by intro u hu; simp at hu; rcases hu with rfl | rfl <;> rfl) (by omega) (by omega) (by simp; omega) ?_; intro v6 w6 hown6 hg6 hl6; obtain ⟨A10, c10, rfl⟩ := own_shape hown6; have HLv := Lib.hid (HalfAt.level ((HA4.out.alloc _).alloc _) (by omega) HWs.out hz5 ((HOw4.out.alloc _).alloc _) hown6 hg6); obtain ⟨x1, x2, x3, x4⟩ := ((HA4.out.alloc _).alloc _).old hg6; have hz6 := hg6.size; clear hown6 hg6 hl6)
                  | (at_builtin; refine wpList_pushOwn el_int rfl (.tmp 93) (.tmp 95) rfl w.heap.size _ (halfK k false m).length _ HLv.out.2.2.2.2.2.2.2.1 rfl w.heap.size _ (halfK k true m).length _ HLv.out.2.2.2.2.2.2.2.2.1 rfl (fun y hy => by obtain ⟨z, _, rfl⟩ := List.mem_map.1 hy; rfl) (by omega) (by omega) HLv.out.2.2.2.2.2.1.size ?_; intro v8 w8 hown8 hg8 hl8; have HDn := Lib.hid (LvSt.done HLv.out HKL.out HM.out hml hown8 hg8); clear hown8 hg8 hl8))
                go_roundw
                case rel =>
                  have hk9 := HKL.out
                  exact ⟨t + 1, _, _, by omega, by congr 1 <;> omega, HDn.out⟩
                case measure =>
                  have hk9 := HKL.out
                  simp [intOf]; omega
          · obtain rfl : t = L := by omega
            have t0 : decide ((t : Int) ≤ (t : Int) - 1) = false := by simp; omega
            obtain ⟨hb1, hb2, hb3, _, hsv, hows, _, _⟩ := hst
            obtain ⟨A9, c9, rfl⟩ := own_shape hsv
            have c4 : wr.cell? ⟨wo.heap.size, 0, none⟩ = some (.slice A9 t c9) := (hb2.cell 0).trans rfl
            have c5 : wr.cell? ⟨w.heap.size, 0, none⟩ = some (.slice none 0 0) := (hb1.cell 0).trans rfl
            have f5 := hb1.frozen 0
            have c1 : Hid (_ = some (Value.slice A9 t c9)) := Lib.hid (((hb1.set_ 0 (.slice A9 t c9)).cell 0).trans rfl)
            have HRows := Lib.hid (rowsB_own (n := l.length) (by unfold I64; omega) (own_far (p := ⟨w.heap.size, 0, none⟩) hsv hb1 (by decide) (.slice A9 t c9)) (levsK_len _ _ _) (by omega) (hows.far (p := ⟨w.heap.size, 0, none⟩) hb1 (by decide) (.slice A9 t c9)))
            have HBe := Lib.hid (hbel.setCell (p := ⟨w.heap.size, 0, none⟩) (Nat.le_refl _) (.slice A9 t c9))
            clear hb1 hb2 hsv hows hbel
            go_wp2_with fail
            exact bodyPost_ret (v := .tuple #[.agg #[.slice A9 t c9], .int .i64 0]) (by have c1 := c1.out; simp [results, Tryz.results30, go_sem, c1]) rfl ⟨_, rfl, HRows.out, HBe.out⟩
end Go.Proofs.YthiccmncdmohbaaGreat
