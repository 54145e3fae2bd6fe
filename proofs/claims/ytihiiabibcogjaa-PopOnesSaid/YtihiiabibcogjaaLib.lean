/-
  Helper lemmas for all claims of this seat: how an argument that can be read as data lies in memory (a slice that reads as a list, a struct of plain fields), and how that reading is kept while the call makes blocks of its own. Conditions: none; nothing here names the program.
-/
import Derived.WalkKit
import Derived.ProofKit
import Derived.OpenShut
import Derived.ShutString
import Derived.ChangeOld
import Derived.Below
import Derived.Laws.OwnMore
import Derived.Deep.AppendLies
import Derived.Deep.Draws
import Derived.Laws.Rows
import Derived.Deep.Slices
import Derived.Deep.Fields
import Derived.Lib.SmallJoins
import Derived.Lib.Hide
namespace Go.Dam
open Go Go.RowKit Go.ChangeShapes Go.WideShapes Go.Joins Go.Deep
set_option linter.unusedVariables false

theorem block_of_add (a : Addr) (n : Nat) : (a.add n).block = a.block := by unfold Addr.add; split <;> rfl
theorem add_of_add (a : Addr) (i j : Nat) : (a.add i).add j = a.add (i + j) := by
  unfold Addr.add
  by_cases hi : i = 0 <;> by_cases hj : j = 0 <;> simp [hi, hj, Nat.add_assoc]

/-- The slice value with address A and n elements of 'size' cells each reads as the cells xs, and lies below block B. -/
def Reads (w : World) (B size : Nat) (A : Option Addr) (n : Nat) (xs : List Value) : Prop :=
  xs.length = n * size ∧ (0 < n → ∃ ad, A = some ad ∧ ad.block < B ∧ ∀ j u, xs[j]? = some u → w.cell? (ad.add j) = some u)

section
variable {w w' : World} {B B' size n : Nat} {A : Option Addr} {xs : List Value}
theorem Reads.none_ : Reads w B size A 0 [] := ⟨by simp, fun h => absurd h (by omega)⟩
theorem Reads.at_ {k : Nat} (h : Reads w B 1 A n xs) (hk : k < n) : ∃ ad u, A = some ad ∧ ad.block < B ∧ xs[k]? = some u ∧ w.cell? (ad.add k) = some u := by
  obtain ⟨ad, e, hb, hc⟩ := h.2 (by omega)
  have hl : k < xs.length := by have := h.1; omega
  exact ⟨ad, xs[k], e, hb, List.getElem?_eq_getElem hl, hc k _ (List.getElem?_eq_getElem hl)⟩
theorem Reads.keep (h : Reads w B size A n xs) (hk : ∀ p : Addr, p.block < B → w'.cell? p = w.cell? p) : Reads w' B size A n xs :=
  ⟨h.1, fun hn => by
    obtain ⟨ad, e, hb, hc⟩ := h.2 hn
    exact ⟨ad, e, hb, fun j u hu => (hk _ (by rw [block_of_add]; exact hb)).trans (hc j u hu)⟩⟩
theorem Reads.more (h : Reads w B size A n xs) (hB : B ≤ B') : Reads w B' size A n xs :=
  ⟨h.1, fun hn => by
    obtain ⟨ad, e, hb, hc⟩ := h.2 hn
    exact ⟨ad, e, by omega, hc⟩⟩
theorem Reads.below (h : Reads w B size A n xs) (hb : Below B w w') : Reads w' B size A n xs := h.keep fun _ hp => hb.cell hp
theorem Reads.drew (h : Reads w B size A n xs) : Reads w.drew B size A n xs := h
theorem Reads.drewN (h : Reads w B size A n xs) (k : Nat) : Reads (w.drewN k) B size A n xs := h
theorem Reads.alloc (h : Reads w B size A n xs) (hB : B ≤ w.heap.size) (o : Obj) : Reads (w.alloc o) B size A n xs := h.keep fun p hp => World.cell?_alloc_lt w o p (by omega)
theorem Reads.setCell (h : Reads w B size A n xs) {p : Addr} (hB : B ≤ p.block) (u : Value) : Reads (w.setCell p u) B size A n xs :=
  h.keep fun q hq => World.cell?_setCell_other w p q u (fun e => by subst e; omega)
theorem Reads.grown (h : Reads w B size A n xs) {row : Option Nat} (hg : w.grownBy w' row) (hB : B ≤ w.heap.size) (hr : ∀ g, row = some g → B ≤ g) : Reads w' B size A n xs :=
  h.keep fun p hp => World.cell?_of_block (hg.block p.block (by omega) (fun e => by have := hr _ e.symm; omega))
theorem Reads.cut (h : Reads w B size A n xs) {k cap : Nat} (hk : k ≤ n) (hc : n ≤ cap) :
    Reads w B size (if cap = k then A else A.map (·.add (k * size))) (n - k) (xs.drop (k * size)) := by
  refine ⟨by rw [List.length_drop, h.1, Nat.sub_mul], fun hn => ?_⟩
  obtain ⟨ad, rfl, hb, hcell⟩ := h.2 (by omega)
  rw [if_neg (by omega)]
  refine ⟨ad.add (k * size), rfl, by rw [block_of_add]; exact hb, fun j u hu => ?_⟩
  rw [add_of_add]
  exact hcell _ u (by rw [← hu, List.getElem?_drop])
theorem Reads.take (h : Reads w B size A n xs) {k : Nat} (hk : k ≤ n) : Reads w B size A k (xs.take (k * size)) := by
  refine ⟨by rw [List.length_take, h.1]; exact Nat.min_eq_left (Nat.mul_le_mul_right _ hk), fun hn => ?_⟩
  obtain ⟨ad, rfl, hb, hcell⟩ := h.2 (by omega)
  refine ⟨ad, rfl, hb, fun j u hu => ?_⟩
  rw [List.getElem?_take] at hu
  split at hu
  · exact hcell _ u hu
  · cases hu
theorem Reads.of_own {base : Nat} {e : TypeId} {c : Nat} (h : w.ownsRow base e size (.slice A n c) n xs) : Reads w w.heap.size size A n xs := by
  refine ⟨h.1, fun hn => ?_⟩
  obtain ⟨g, cap, hv, _, hlt⟩ := h.form hn
  have hA : A = some ⟨g, 0, none⟩ := by injection hv
  subst hA
  exact ⟨_, rfl, hlt, h.cells (g := g) rfl⟩
end

/-- Block g is just the cells cs of element type t, none frozen. -/
def Blk (w : World) (g : Nat) (t : TypeId) (cs : Array Value) : Prop := w.heap[g]? = some (.cells cs t (0, 0))
section
variable {w w' : World} {g : Nat} {t : TypeId} {cs : Array Value}
theorem Blk.lt (h : Blk w g t cs) : g < w.heap.size := by
  rcases Nat.lt_or_ge g w.heap.size with hlt | hge
  · exact hlt
  · unfold Blk at h; rw [Array.getElem?_eq_none hge] at h; cases h
theorem Blk.cell (h : Blk w g t cs) (i : Nat) : w.cell? ⟨g, i, none⟩ = cs[i]? := cell_of_row w g i cs t (0, 0) h
theorem Blk.frozen (h : Blk w g t cs) (i : Nat) : w.frozen? ⟨g, i, none⟩ = false := by
  unfold Blk at h
  simp [World.frozen?, h]
theorem Blk.new (w : World) (t : TypeId) (cs : Array Value) : Blk (w.alloc (.cells cs t)) w.heap.size t cs := heap_alloc_new w _
theorem Blk.new_at (w : World) (t : TypeId) (cs : Array Value) (g : Nat) (hg : g = w.heap.size) : Blk (w.alloc (.cells cs t)) g t cs := by subst hg; exact Blk.new w t cs
theorem Blk.drew (h : Blk w g t cs) : Blk w.drew g t cs := h
theorem Blk.drewN (h : Blk w g t cs) (n : Nat) : Blk (w.drewN n) g t cs := h
theorem Blk.alloc (h : Blk w g t cs) (o : Obj) : Blk (w.alloc o) g t cs := (Below.heap_alloc w o g h.lt).trans h
theorem Blk.set_ (h : Blk w g t cs) (i : Nat) (u : Value) : Blk (w.setCell ⟨g, i, none⟩ u) g t (cs.setIfInBounds i u) := by
  unfold Blk at h ⊢
  simp [World.setCell, Array.getElem?_modify, h]
theorem Blk.far (h : Blk w g t cs) {p : Addr} (hp : g ≠ p.block) (u : Value) : Blk (w.setCell p u) g t cs := (Below.heap_setCell w p u g hp).trans h
theorem Blk.below {B : Nat} (h : Blk w g t cs) (hb : Below B w w') (hg : g < B) : Blk w' g t cs := (hb.block g hg).trans h
theorem Blk.grown {row : Option Nat} (h : Blk w g t cs) (hb : w.grownBy w' row) (hg : some g ≠ row) : Blk w' g t cs := (hb.block g h.lt hg).trans h
theorem Blk.ne_ {g' : Nat} {t' : TypeId} {cs' : Array Value} (h : Blk w g t cs) (h' : Blk w g' t' cs') (hne : t ≠ t') : g ≠ g' := by
  rintro rfl
  unfold Blk at h h'
  rw [h] at h'
  injection h' with h'
  injection h' with _ ht
  exact hne ht
end

/-! ### From a datum's reading to 'Reads' -/
section
variable {H : Type} {enc : TypeId × Value → H} {P : Program} {w : World} {base : Nat} {spare : Nat → Bool} {held : Bool}

theorem cell_lt {w : World} {a : Addr} {v : Value} (h : w.cell? a = some v) : a.block < w.heap.size := by
  unfold World.cell? at h
  rcases Nat.lt_or_ge a.block w.heap.size with hlt | hge
  · exact hlt
  · rw [Array.getElem?_eq_none hge] at h; cases h

/-- Whatever slice can be read as data: 'Reads', and each element's cells read as data of the element's type. -/
theorem open_reads {t e : TypeId} {s fuel : Nat} {cs : List Value} {x : DataW H × List MemPlace} (ht : P.underlying t = some (.slice e)) (hs : P.cellsOf e = s) (hs0 : 0 < s)
    (h : DataW.trod enc P w base spare held fuel t cs = some x) :
    ∃ A n c vs, cs = [.slice A n c] ∧ n ≤ c ∧ c ≤ maxLen ∧ Reads w w.heap.size s A n vs ∧
      ∀ i, i < n → ∃ f y, DataW.trod enc P w base spare held f e ((vs.drop (i * s)).take s) = some y := by
  rcases open_slice ht h with ⟨rfl, rfl⟩ | ⟨a, len, cap, m, n, D, Pl, rfl, hb, hl, hm, hmm, hx, hi⟩
  · exact ⟨none, 0, 0, [], rfl, Nat.le_refl _, Nat.zero_le _, Reads.none_, fun i hi => absurd hi (by omega)⟩
  · rw [hs] at hi
    have hlm : len ≤ m := by rw [hmm]; split <;> omega
    let vs := (List.range (len * s)).map fun j => (w.cell? (a.add j)).getD undef
    have hvl : vs.length = len * s := by simp [vs]
    have key : ∀ i, i < len → ∃ cs', cs'.length = s ∧ (∀ j, j < s → w.cell? (a.add (i * s + j)) = cs'[j]?) ∧ DataW.trod enc P w base spare held n e cs' = some (D i, Pl i) := by
      intro i hil
      obtain ⟨cs', hc, ht'⟩ := hi i (by omega)
      obtain ⟨_, hcl, hat⟩ := World.cells?_some hc
      exact ⟨cs', hcl, fun j hj => by rw [← add_of_add]; exact hat j hj, ht'⟩
    have hcell : ∀ j, j < len * s → ∃ u, w.cell? (a.add j) = some u := by
      intro j hj
      have hq : j / s < len := by rw [Nat.div_lt_iff_lt_mul hs0]; exact hj
      have hr : j % s < s := Nat.mod_lt _ hs0
      obtain ⟨cs', hcl, hat, _⟩ := key (j / s) hq
      have := hat (j % s) hr
      rw [show j / s * s + j % s = j from by rw [Nat.mul_comm]; exact Nat.div_add_mod j s] at this
      exact ⟨cs'[j % s]'(by omega), by rw [this]; exact List.getElem?_eq_getElem (by omega)⟩
    have hvs : ∀ j, j < len * s → w.cell? (a.add j) = vs[j]? := by
      intro j hj
      obtain ⟨u, hu⟩ := hcell j hj
      simp [vs, hj, hu]
    refine ⟨some a, len, cap, vs, rfl, hl, hm, ⟨hvl, fun hn => ⟨a, rfl, ?_, fun j u hu => ?_⟩⟩, fun i hil => ⟨n, (D i, Pl i), ?_⟩⟩
    · obtain ⟨u, hu⟩ := hcell 0 (Nat.mul_pos hn hs0)
      have := cell_lt hu
      rwa [block_of_add] at this
    · have hj : j < len * s := by
        rw [← hvl]
        rcases Nat.lt_or_ge j vs.length with h | h
        · exact h
        · rw [List.getElem?_eq_none h] at hu; cases hu
      rw [hvs j hj, hu]
    · obtain ⟨cs', hcl, hat, ht'⟩ := key i hil
      rw [← ht']
      congr 1
      have hle : i * s + s ≤ len * s := by
        have : (i + 1) * s ≤ len * s := Nat.mul_le_mul_right _ (by omega)
        rwa [Nat.succ_mul] at this
      apply List.ext_getElem?
      intro j
      rw [List.getElem?_take, List.getElem?_drop]
      split
      · rename_i hj
        rw [← hvs _ (by omega), hat j hj]
      · rw [List.getElem?_eq_none (by omega)]

/-- A slice of integers. -/
theorem open_list {t e : TypeId} {k : IntKind} {fuel : Nat} {cs : List Value} {x : DataW H × List MemPlace} (ht : P.underlying t = some (.slice e)) (he : P.underlying e = some (.int k)) (hs : P.cellsOf e = 1)
    (h : DataW.trod enc P w base spare held fuel t cs = some x) :
    ∃ A n c, ∃ l : List Int, cs = [.slice A n c] ∧ n ≤ c ∧ c ≤ maxLen ∧ l.length = n ∧ Reads w w.heap.size 1 A n (l.map (Value.int k)) ∧ ∀ z ∈ l, (Lit.int k z).wf = true := by
  obtain ⟨A, n, c, vs, rfl, hc, hm, hr, hi⟩ := open_reads ht hs (by omega) h
  have hl : vs.length = n := by have := hr.1; omega
  have key : ∀ i, i < n → ∃ z, vs[i]? = some (.int k z) ∧ (Lit.int k z).wf = true := by
    intro i hin
    obtain ⟨f, y, hy⟩ := hi i hin
    obtain ⟨z, hz, _, hw⟩ := DataW.trod_int he hy
    have h0 : ((vs.drop (i * 1)).take 1)[0]? = vs[i]? := by simp
    rw [hz] at h0
    exact ⟨z, h0.symm, hw⟩
  refine ⟨A, n, c, vs.map intOf, rfl, hc, hm, by simpa using hl, ?_, ?_⟩
  · have : (vs.map intOf).map (Value.int k) = vs := by
      apply List.ext_getElem?
      intro j
      rcases Nat.lt_or_ge j n with hj | hj
      · obtain ⟨z, hz, _⟩ := key j hj
        simp [hz, intOf]
      · rw [List.getElem?_eq_none (by simp; omega), List.getElem?_eq_none (by omega)]
    rw [this]; exact hr
  · intro z hz
    obtain ⟨j, hj, rfl⟩ := List.mem_iff_getElem.1 hz
    have hj' : j < vs.length := by simpa using hj
    obtain ⟨z, hz, hw⟩ := key j (by omega)
    rw [List.getElem?_eq_getElem hj'] at hz
    have : vs[j] = .int k z := by injection hz
    simpa [this, intOf] using hw

def boolOf : Value → Bool | .bool b => b | _ => false
/-- A slice of bools. -/
theorem open_bools {t e : TypeId} {fuel : Nat} {cs : List Value} {x : DataW H × List MemPlace} (ht : P.underlying t = some (.slice e)) (he : P.underlying e = some .bool) (hs : P.cellsOf e = 1)
    (h : DataW.trod enc P w base spare held fuel t cs = some x) :
    ∃ A n c, ∃ l : List Bool, cs = [.slice A n c] ∧ n ≤ c ∧ c ≤ maxLen ∧ l.length = n ∧ Reads w w.heap.size 1 A n (l.map Value.bool) := by
  obtain ⟨A, n, c, vs, rfl, hc, hm, hr, hi⟩ := open_reads ht hs (by omega) h
  have hl : vs.length = n := by have := hr.1; omega
  refine ⟨A, n, c, vs.map boolOf, rfl, hc, hm, by simpa using hl, ?_⟩
  have : (vs.map boolOf).map Value.bool = vs := by
    apply List.ext_getElem?
    intro j
    rcases Nat.lt_or_ge j n with hj | hj
    · obtain ⟨f, y, hy⟩ := hi j hj
      obtain ⟨z, hz, _⟩ := DataW.trod_bool he hy
      have h0 : ((vs.drop (j * 1)).take 1)[0]? = vs[j]? := by simp
      rw [hz] at h0
      simp [← h0, boolOf]
    · rw [List.getElem?_eq_none (by simp; omega), List.getElem?_eq_none (by omega)]
  rw [this]; exact hr

theorem wf_u64 {x : Int} (h : (Lit.int .u64 x).wf = true) : ∃ n : Nat, x = n ∧ n < 18446744073709551616 := by
  have hx : 0 ≤ x ∧ x ≤ 18446744073709551615 := by simpa [Lit.wf, IntKind.min, IntKind.max, IntKind.signed, IntKind.bits] using h
  exact ⟨x.toNat, by omega, by omega⟩
theorem wf_i64 {x : Int} (h : (Lit.int .i64 x).wf = true) : -9223372036854775808 ≤ x ∧ x ≤ 9223372036854775807 := by
  simpa [Lit.wf, IntKind.min, IntKind.max, IntKind.signed, IntKind.bits] using h
theorem wf_u8 {x : Int} (h : (Lit.int .u8 x).wf = true) : 0 ≤ x ∧ x ≤ 255 := by
  simpa [Lit.wf, IntKind.min, IntKind.max, IntKind.signed, IntKind.bits] using h

/-! ### What a walk is told of an argument -/
def IsInts (k : IntKind) (w : World) (B : Nat) (v : Value) (l : List Int) : Prop :=
  ∃ A c, v = .slice A l.length c ∧ l.length ≤ c ∧ c ≤ maxLen ∧ Reads w B 1 A l.length (l.map (Value.int k)) ∧ ∀ z ∈ l, (Lit.int k z).wf = true
def IsBools (w : World) (B : Nat) (v : Value) (l : List Bool) : Prop :=
  ∃ A c, v = .slice A l.length c ∧ l.length ≤ c ∧ c ≤ maxLen ∧ Reads w B 1 A l.length (l.map Value.bool)
def IsBits (w : World) (B : Nat) (v : Value) (n : Int) (l : List Int) : Prop :=
  ∃ s, v = .agg #[.int .i64 n, s] ∧ (-9223372036854775808 ≤ n ∧ n ≤ 9223372036854775807) ∧ IsInts .u64 w B s l
def IsPacked (w : World) (B : Nat) (v : Value) (n m : Int) (l : List Int) : Prop :=
  ∃ s, v = .agg #[.int .i64 n, .int .i64 m, s] ∧ (-9223372036854775808 ≤ n ∧ n ≤ 9223372036854775807) ∧ (-9223372036854775808 ≤ m ∧ m ≤ 9223372036854775807) ∧ IsInts .u64 w B s l

variable {r : Reach} {b0 : Nat} {t e : TypeId} {v : Value} {d : DataW H} {ps : List MemPlace}
theorem arg_u64 (ht : P.underlying t = some (.int .u64)) (hv : Value.okWide P w r b0 t v) (h : DataW.Trod enc P w base spare held t v d ps) : ∃ n : Nat, v = .int .u64 n ∧ n < 18446744073709551616 := by
  obtain ⟨x, rfl, _, _, hw⟩ := open_int ht hv h
  obtain ⟨n, rfl, hn⟩ := wf_u64 hw
  exact ⟨n, rfl, hn⟩
theorem arg_i64 (ht : P.underlying t = some (.int .i64)) (hv : Value.okWide P w r b0 t v) (h : DataW.Trod enc P w base spare held t v d ps) : ∃ x : Int, v = .int .i64 x ∧ (-9223372036854775808 ≤ x ∧ x ≤ 9223372036854775807) := by
  obtain ⟨x, rfl, _, _, hw⟩ := open_int ht hv h
  exact ⟨x, rfl, wf_i64 hw⟩
theorem arg_bool (ht : P.underlying t = some .bool) (hv : Value.okWide P w r b0 t v) (h : DataW.Trod enc P w base spare held t v d ps) : ∃ x : Bool, v = .bool x := by
  obtain ⟨x, rfl, _, _⟩ := open_bool ht hv h
  exact ⟨x, rfl⟩
theorem arg_string (ht : P.underlying t = some .string) (hv : Value.okWide P w r b0 t v) (h : DataW.Trod enc P w base spare held t v d ps) : ∃ s : ByteArray, v = .string s ∧ s.size ≤ maxLen := by
  obtain ⟨x, rfl, _, _, hs⟩ := Go.ChangeMaps.open_string ht hv h
  exact ⟨x, rfl, hs⟩
theorem ints_of {k : IntKind} {fuel : Nat} {x : DataW H × List MemPlace} (ht : P.underlying t = some (.slice e)) (he : P.underlying e = some (.int k)) (hs : P.cellsOf e = 1)
    (h : DataW.trod enc P w base spare held fuel t [v] = some x) : ∃ l, IsInts k w w.heap.size v l := by
  obtain ⟨A, n, c, l, hcs, hc, hm, rfl, hr, hw⟩ := open_list ht he hs h
  simp only [List.cons.injEq, and_true] at hcs
  exact ⟨l, A, c, hcs, hc, hm, hr, hw⟩
theorem arg_ints {k : IntKind} (ht : P.underlying t = some (.slice e)) (he : P.underlying e = some (.int k)) (hs : P.cellsOf e = 1) (hv : Value.okWide P w r b0 t v) (h : DataW.Trod enc P w base spare held t v d ps) :
    ∃ l, IsInts k w w.heap.size v l := by
  obtain ⟨a, len, cap, rfl⟩ := okWide_slice ht hv
  obtain ⟨fuel, hf⟩ := h
  exact ints_of ht he hs hf
theorem arg_bools (ht : P.underlying t = some (.slice e)) (he : P.underlying e = some .bool) (hs : P.cellsOf e = 1) (hv : Value.okWide P w r b0 t v) (h : DataW.Trod enc P w base spare held t v d ps) :
    ∃ l, IsBools w w.heap.size v l := by
  obtain ⟨a, len, cap, rfl⟩ := okWide_slice ht hv
  obtain ⟨fuel, hf⟩ := h
  obtain ⟨A, n, c, l, hcs, hc, hm, rfl, hr⟩ := open_bools ht he hs hf
  simp only [Value.cells, List.cons.injEq, and_true] at hcs
  exact ⟨l, A, c, hcs, hc, hm, hr⟩
theorem arg_bits {f0 f1 : Field} {u : TypeId} (ht : P.underlying t = some (.struct #[f0, f1])) (h0 : P.underlying f0.type = some (.int .i64)) (h1 : P.underlying f1.type = some (.slice u)) (hu : P.underlying u = some (.int .u64)) (hs : P.cellsOf u = 1)
    (hone : oneCellFields P #[f0, f1] = true) (hC : P.cellsOf t = 2) (hv : Value.okWide P w r b0 t v) (h : DataW.Trod enc P w base spare held t v d ps) :
    ∃ n l, IsBits w w.heap.size v n l := by
  obtain ⟨v0, v1, y0, y1, n, rfl, _, _, t0, t1⟩ := open_agg2 ht hone hC hv h
  obtain ⟨x, hx, _, hw⟩ := DataW.trod_int h0 t0
  simp only [List.cons.injEq, and_true] at hx
  subst hx
  obtain ⟨l, hl⟩ := ints_of h1 hu hs t1
  exact ⟨x, l, v1, rfl, wf_i64 hw, hl⟩
theorem arg_packed {f0 f1 f2 : Field} {u : TypeId} (ht : P.underlying t = some (.struct #[f0, f1, f2])) (h0 : P.underlying f0.type = some (.int .i64)) (h0' : P.underlying f1.type = some (.int .i64)) (h1 : P.underlying f2.type = some (.slice u)) (hu : P.underlying u = some (.int .u64)) (hs : P.cellsOf u = 1)
    (hone : oneCellFields P #[f0, f1, f2] = true) (hC : P.cellsOf t = 3) (hv : Value.okWide P w r b0 t v) (h : DataW.Trod enc P w base spare held t v d ps) :
    ∃ n m l, IsPacked w w.heap.size v n m l := by
  obtain ⟨v0, v1, v2, y0, y1, y2, n, rfl, _, _, t0, t1, t2⟩ := open_agg3 ht hone hC hv h
  obtain ⟨x, hx, _, hw⟩ := DataW.trod_int h0 t0
  simp only [List.cons.injEq, and_true] at hx
  subst hx
  obtain ⟨z, hz, _, hw'⟩ := DataW.trod_int h0' t1
  simp only [List.cons.injEq, and_true] at hz
  subst hz
  obtain ⟨l, hl⟩ := ints_of h1 hu hs t2
  exact ⟨x, z, l, v2, rfl, wf_i64 hw, wf_i64 hw', hl⟩
end
section
variable {k : IntKind} {w w' : World} {B B' : Nat} {v : Value} {l : List Int} {lb : List Bool}
theorem IsInts.below (h : IsInts k w B v l) (hb : Below B w w') : IsInts k w' B v l := by
  obtain ⟨A, c, rfl, h1, h2, h3, h4⟩ := h
  exact ⟨A, c, rfl, h1, h2, h3.below hb, h4⟩
theorem IsBools.below (h : IsBools w B v lb) (hb : Below B w w') : IsBools w' B v lb := by
  obtain ⟨A, c, rfl, h1, h2, h3⟩ := h
  exact ⟨A, c, rfl, h1, h2, h3.below hb⟩
theorem IsInts.more (h : IsInts k w B v l) (hB : B ≤ B') : IsInts k w B' v l := by
  obtain ⟨A, c, rfl, h1, h2, h3, h4⟩ := h
  exact ⟨A, c, rfl, h1, h2, h3.more hB, h4⟩
end
end Go.Dam
