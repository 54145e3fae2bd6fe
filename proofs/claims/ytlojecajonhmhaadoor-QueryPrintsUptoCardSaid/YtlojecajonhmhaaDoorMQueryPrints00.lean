/-
  Texts of one claim behind each other. Conditions: none of its own.
-/
import Derived.WalkKit
import Derived.ProofKit
import Derived.OpenShut
import Derived.ShutString
import Derived.ChangeOld
import Derived.Below
import Derived.Laws.OwnMore
import Derived.Deep.AppendLies
import Derived.Deep.Draws
import Derived.Laws.Rows
import Derived.Deep.Slices
import Derived.Deep.Fields
import Derived.Lib.SmallJoins
import Derived.Lib.Hide
import Derived.SizedLaws
import Derived.Laws.BitsAllLaws
import Derived.Laws.BitsLemmas
import Derived.IntWalk
import Derived.Lib.ItoaNum
set_option linter.unusedVariables false
set_option linter.unusedSimpArgs false
/-
  Helper lemmas for all claims of this seat: how an argument that can be read as data lies in memory (a slice that reads as a list, a struct of plain fields), and how that reading is kept while the call makes blocks of its own. Conditions: none; nothing here names the program.
-/
namespace Go.Dam
open Go Go.RowKit Go.ChangeShapes Go.WideShapes Go.Joins Go.Deep
set_option linter.unusedVariables false

theorem block_of_add (a : Addr) (n : Nat) : (a.add n).block = a.block := by unfold Addr.add; split <;> rfl
theorem add_of_add (a : Addr) (i j : Nat) : (a.add i).add j = a.add (i + j) := by
  unfold Addr.add
  by_cases hi : i = 0 <;> by_cases hj : j = 0 <;> simp [hi, hj, Nat.add_assoc]

/-- The slice value with address A and n elements of 'size' cells each reads as the cells xs, and lies below block B. -/
def Reads (w : World) (B size : Nat) (A : Option Addr) (n : Nat) (xs : List Value) : Prop :=
  xs.length = n * size ∧ (0 < n → ∃ ad, A = some ad ∧ ad.block < B ∧ ∀ j u, xs[j]? = some u → w.cell? (ad.add j) = some u)

section
variable {w w' : World} {B B' size n : Nat} {A : Option Addr} {xs : List Value}
theorem Reads.none_ : Reads w B size A 0 [] := ⟨by simp, fun h => absurd h (by omega)⟩
theorem Reads.at_ {k : Nat} (h : Reads w B 1 A n xs) (hk : k < n) : ∃ ad u, A = some ad ∧ ad.block < B ∧ xs[k]? = some u ∧ w.cell? (ad.add k) = some u := by
  obtain ⟨ad, e, hb, hc⟩ := h.2 (by omega)
  have hl : k < xs.length := by have := h.1; omega
  exact ⟨ad, xs[k], e, hb, List.getElem?_eq_getElem hl, hc k _ (List.getElem?_eq_getElem hl)⟩
theorem cell_spot {w : World} {a : Addr} {v : Value} (h : w.cell? a = some v) : a.spot = none := by
  unfold World.cell? at h
  split at h
  · split at h
    · cases h
    · rename_i hs; simpa using hs
  · cases h
theorem Reads.addr (h : Reads w B 1 A n xs) (hn : 0 < n) : ∃ b off, A = some ⟨b, off, none⟩ ∧ b < B ∧ ∀ k, k < n → ∃ u, xs[k]? = some u ∧ w.cell? ⟨b, off + k, none⟩ = some u := by
  obtain ⟨ad, e, hb, hc⟩ := h.2 hn
  obtain ⟨b, off, sp⟩ := ad
  have key : ∀ k, k < n → ∃ u, xs[k]? = some u ∧ w.cell? ((⟨b, off, sp⟩ : Addr).add k) = some u := by
    intro k hk
    have hl : k < xs.length := by have := h.1; omega
    exact ⟨xs[k], List.getElem?_eq_getElem hl, hc k _ (List.getElem?_eq_getElem hl)⟩
  obtain ⟨u0, _, hu0⟩ := key 0 hn
  have hsp : sp = none := by simpa [Addr.add] using cell_spot hu0
  subst hsp
  refine ⟨b, off, e, hb, fun k hk => ?_⟩
  obtain ⟨u, hx, hu⟩ := key k hk
  refine ⟨u, hx, ?_⟩
  unfold Addr.add at hu
  split at hu
  · rename_i h0; subst h0; exact hu
  · exact hu
theorem Reads.keep (h : Reads w B size A n xs) (hk : ∀ p : Addr, p.block < B → w'.cell? p = w.cell? p) : Reads w' B size A n xs :=
  ⟨h.1, fun hn => by
    obtain ⟨ad, e, hb, hc⟩ := h.2 hn
    exact ⟨ad, e, hb, fun j u hu => (hk _ (by rw [block_of_add]; exact hb)).trans (hc j u hu)⟩⟩
theorem Reads.more (h : Reads w B size A n xs) (hB : B ≤ B') : Reads w B' size A n xs :=
  ⟨h.1, fun hn => by
    obtain ⟨ad, e, hb, hc⟩ := h.2 hn
    exact ⟨ad, e, by omega, hc⟩⟩
theorem Reads.below (h : Reads w B size A n xs) (hb : Below B w w') : Reads w' B size A n xs := h.keep fun _ hp => hb.cell hp
theorem Reads.drew (h : Reads w B size A n xs) : Reads w.drew B size A n xs := h
theorem Reads.drewN (h : Reads w B size A n xs) (k : Nat) : Reads (w.drewN k) B size A n xs := h
theorem Reads.alloc (h : Reads w B size A n xs) (hB : B ≤ w.heap.size) (o : Obj) : Reads (w.alloc o) B size A n xs := h.keep fun p hp => World.cell?_alloc_lt w o p (by omega)
theorem Reads.setCell (h : Reads w B size A n xs) {p : Addr} (hB : B ≤ p.block) (u : Value) : Reads (w.setCell p u) B size A n xs :=
  h.keep fun q hq => World.cell?_setCell_other w p q u (fun e => by subst e; omega)
theorem Reads.grown (h : Reads w B size A n xs) {row : Option Nat} (hg : w.grownBy w' row) (hB : B ≤ w.heap.size) (hr : ∀ g, row = some g → B ≤ g) : Reads w' B size A n xs :=
  h.keep fun p hp => World.cell?_of_block (hg.block p.block (by omega) (fun e => by have := hr _ e.symm; omega))
theorem Reads.cut (h : Reads w B size A n xs) {k cap : Nat} (hk : k ≤ n) (hc : n ≤ cap) :
    Reads w B size (if cap = k then A else A.map (·.add (k * size))) (n - k) (xs.drop (k * size)) := by
  refine ⟨by rw [List.length_drop, h.1, Nat.sub_mul], fun hn => ?_⟩
  obtain ⟨ad, rfl, hb, hcell⟩ := h.2 (by omega)
  rw [if_neg (by omega)]
  refine ⟨ad.add (k * size), rfl, by rw [block_of_add]; exact hb, fun j u hu => ?_⟩
  rw [add_of_add]
  exact hcell _ u (by rw [← hu, List.getElem?_drop])
theorem Reads.take (h : Reads w B size A n xs) {k : Nat} (hk : k ≤ n) : Reads w B size A k (xs.take (k * size)) := by
  refine ⟨by rw [List.length_take, h.1]; exact Nat.min_eq_left (Nat.mul_le_mul_right _ hk), fun hn => ?_⟩
  obtain ⟨ad, rfl, hb, hcell⟩ := h.2 (by omega)
  refine ⟨ad, rfl, hb, fun j u hu => ?_⟩
  rw [List.getElem?_take] at hu
  split at hu
  · exact hcell _ u hu
  · cases hu
theorem Reads.of_own {base : Nat} {e : TypeId} {c : Nat} (h : w.ownsRow base e size (.slice A n c) n xs) : Reads w w.heap.size size A n xs := by
  refine ⟨h.1, fun hn => ?_⟩
  obtain ⟨g, cap, hv, _, hlt⟩ := h.form hn
  have hA : A = some ⟨g, 0, none⟩ := by injection hv
  subst hA
  exact ⟨_, rfl, hlt, h.cells (g := g) rfl⟩
end

/-- Block g is just the cells cs of element type t, none frozen. -/
def Blk (w : World) (g : Nat) (t : TypeId) (cs : Array Value) : Prop := w.heap[g]? = some (.cells cs t (0, 0))
section
variable {w w' : World} {g : Nat} {t : TypeId} {cs : Array Value}
theorem Blk.lt (h : Blk w g t cs) : g < w.heap.size := by
  rcases Nat.lt_or_ge g w.heap.size with hlt | hge
  · exact hlt
  · unfold Blk at h; rw [Array.getElem?_eq_none hge] at h; cases h
theorem Blk.cell (h : Blk w g t cs) (i : Nat) : w.cell? ⟨g, i, none⟩ = cs[i]? := cell_of_row w g i cs t (0, 0) h
theorem Blk.frozen (h : Blk w g t cs) (i : Nat) : w.frozen? ⟨g, i, none⟩ = false := by
  unfold Blk at h
  simp [World.frozen?, h]
theorem Blk.new (w : World) (t : TypeId) (cs : Array Value) : Blk (w.alloc (.cells cs t)) w.heap.size t cs := heap_alloc_new w _
theorem Blk.new_at (w : World) (t : TypeId) (cs : Array Value) (g : Nat) (hg : g = w.heap.size) : Blk (w.alloc (.cells cs t)) g t cs := by subst hg; exact Blk.new w t cs
theorem Blk.drew (h : Blk w g t cs) : Blk w.drew g t cs := h
theorem Blk.drewN (h : Blk w g t cs) (n : Nat) : Blk (w.drewN n) g t cs := h
theorem Blk.alloc (h : Blk w g t cs) (o : Obj) : Blk (w.alloc o) g t cs := (Below.heap_alloc w o g h.lt).trans h
theorem Blk.set_ (h : Blk w g t cs) (i : Nat) (u : Value) : Blk (w.setCell ⟨g, i, none⟩ u) g t (cs.setIfInBounds i u) := by
  unfold Blk at h ⊢
  simp [World.setCell, Array.getElem?_modify, h]
theorem Blk.far (h : Blk w g t cs) {p : Addr} (hp : g ≠ p.block) (u : Value) : Blk (w.setCell p u) g t cs := (Below.heap_setCell w p u g hp).trans h
theorem Blk.below {B : Nat} (h : Blk w g t cs) (hb : Below B w w') (hg : g < B) : Blk w' g t cs := (hb.block g hg).trans h
theorem Blk.grown {row : Option Nat} (h : Blk w g t cs) (hb : w.grownBy w' row) (hg : some g ≠ row) : Blk w' g t cs := (hb.block g h.lt hg).trans h
theorem Blk.ne_ {g' : Nat} {t' : TypeId} {cs' : Array Value} (h : Blk w g t cs) (h' : Blk w g' t' cs') (hne : t ≠ t') : g ≠ g' := by
  rintro rfl
  unfold Blk at h h'
  rw [h] at h'
  injection h' with h'
  injection h' with _ ht
  exact hne ht
end

/-! ### From a datum's reading to 'Reads' -/
section
variable {H : Type} {enc : TypeId × Value → H} {P : Program} {w : World} {base : Nat} {spare : Nat → Bool} {held : Bool}

theorem cell_lt {w : World} {a : Addr} {v : Value} (h : w.cell? a = some v) : a.block < w.heap.size := by
  unfold World.cell? at h
  rcases Nat.lt_or_ge a.block w.heap.size with hlt | hge
  · exact hlt
  · rw [Array.getElem?_eq_none hge] at h; cases h

/-- No part of the datum is longer than the form's reach. -/
def Sized (P : Program) (t : TypeId) (d : DataW H) : Prop := ∀ n ∈ d.weights P t, n ≤ reachBytes
theorem weightsAll_mem {e : TypeId} {d : DataW H} {n : Nat} : ∀ {l : List (DataW H)}, d ∈ l → n ∈ d.weights P e → n ∈ DataW.weightsAll P e l
  | x :: l, hd, hn => by
    simp only [DataW.weightsAll, List.mem_append]
    rcases List.mem_cons.1 hd with rfl | hd
    · exact Or.inl hn
    · exact Or.inr (weightsAll_mem hd hn)
theorem Sized.field {t : TypeId} {fs : Array Field} {parts : List (DataW H)} (ht : P.underlying t = some (.struct fs)) (hz : Sized P t (.agg parts)) {j : Nat} {f : Field} {d : DataW H} (hf : fs[j]? = some f) (hd : parts[j]? = some d) : Sized P f.type d := by
  intro n hn
  refine hz n ?_
  simp only [DataW.weights, ht]
  exact DataW.weights_mem_each (by simpa using ⟨f, hf, rfl⟩) hd n hn
theorem sized_arg {ts : List TypeId} {ds : List (DataW H)} (h : (DataW.weightsEach P ts ds).all (· ≤ reachBytes) = true) {j : Nat} {t : TypeId} {d : DataW H} (ht : ts[j]? = some t) (hd : ds[j]? = some d) : Sized P t d := by
  intro n hn
  have := List.all_eq_true.1 h n (DataW.weights_mem_each ht hd n hn)
  simpa using this

/-- Whatever slice can be read as data: 'Reads', and each element's cells read as data of the element's type. -/
theorem open_reads {t e : TypeId} {s fuel : Nat} {cs : List Value} {x : DataW H × List MemPlace} (ht : P.underlying t = some (.slice e)) (hs : P.cellsOf e = s) (hs0 : 0 < s)
    (h : DataW.trod enc P w base spare held fuel t cs = some x) (hz : Sized P t x.1) :
    ∃ A n c vs, cs = [.slice A n c] ∧ n ≤ c ∧ c ≤ maxLen ∧ n * P.bytesOf e ≤ reachBytes ∧ Reads w w.heap.size s A n vs ∧
      ∀ i, i < n → ∃ f y, DataW.trod enc P w base spare held f e ((vs.drop (i * s)).take s) = some y ∧ Sized P e y.1 := by
  rcases open_slice ht h with ⟨rfl, rfl⟩ | ⟨a, len, cap, m, n, D, Pl, rfl, hb, hl, hm, hmm, hx, hi⟩
  · exact ⟨none, 0, 0, [], rfl, Nat.le_refl _, Nat.zero_le _, by simp, Reads.none_, fun i hi => absurd hi (by omega)⟩
  · have hz1 : len * P.bytesOf e ≤ reachBytes := by
      have h1 := hz ((((List.range len).map D).length + ((List.range (m - len)).map fun j => D (len + j)).length) * P.bytesOf e) (by rw [hx]; simp [DataW.weights, ht])
      refine Nat.le_trans (Nat.mul_le_mul_right _ ?_) h1
      simp
    have hz2 : ∀ i, i < len → Sized P e (D i) := by
      intro i hil n hn
      refine hz n ?_
      rw [hx]
      simp only [DataW.weights, ht, List.mem_cons, List.mem_append]
      exact Or.inr (Or.inl (weightsAll_mem (List.mem_map.2 ⟨i, List.mem_range.2 hil, rfl⟩) hn))
    rw [hs] at hi
    have hlm : len ≤ m := by rw [hmm]; split <;> omega
    let vs := (List.range (len * s)).map fun j => (w.cell? (a.add j)).getD undef
    have hvl : vs.length = len * s := by simp [vs]
    have key : ∀ i, i < len → ∃ cs', cs'.length = s ∧ (∀ j, j < s → w.cell? (a.add (i * s + j)) = cs'[j]?) ∧ DataW.trod enc P w base spare held n e cs' = some (D i, Pl i) := by
      intro i hil
      obtain ⟨cs', hc, ht'⟩ := hi i (by omega)
      obtain ⟨_, hcl, hat⟩ := World.cells?_some hc
      exact ⟨cs', hcl, fun j hj => by rw [← add_of_add]; exact hat j hj, ht'⟩
    have hcell : ∀ j, j < len * s → ∃ u, w.cell? (a.add j) = some u := by
      intro j hj
      have hq : j / s < len := by rw [Nat.div_lt_iff_lt_mul hs0]; exact hj
      have hr : j % s < s := Nat.mod_lt _ hs0
      obtain ⟨cs', hcl, hat, _⟩ := key (j / s) hq
      have := hat (j % s) hr
      rw [show j / s * s + j % s = j from by rw [Nat.mul_comm]; exact Nat.div_add_mod j s] at this
      exact ⟨cs'[j % s]'(by omega), by rw [this]; exact List.getElem?_eq_getElem (by omega)⟩
    have hvs : ∀ j, j < len * s → w.cell? (a.add j) = vs[j]? := by
      intro j hj
      obtain ⟨u, hu⟩ := hcell j hj
      simp [vs, hj, hu]
    refine ⟨some a, len, cap, vs, rfl, hl, hm, hz1, ⟨hvl, fun hn => ⟨a, rfl, ?_, fun j u hu => ?_⟩⟩, fun i hil => ⟨n, (D i, Pl i), ?_, hz2 i hil⟩⟩
    · obtain ⟨u, hu⟩ := hcell 0 (Nat.mul_pos hn hs0)
      have := cell_lt hu
      rwa [block_of_add] at this
    · have hj : j < len * s := by
        rw [← hvl]
        rcases Nat.lt_or_ge j vs.length with h | h
        · exact h
        · rw [List.getElem?_eq_none h] at hu; cases hu
      rw [hvs j hj, hu]
    · obtain ⟨cs', hcl, hat, ht'⟩ := key i hil
      rw [← ht']
      congr 1
      have hle : i * s + s ≤ len * s := by
        have : (i + 1) * s ≤ len * s := Nat.mul_le_mul_right _ (by omega)
        rwa [Nat.succ_mul] at this
      apply List.ext_getElem?
      intro j
      rw [List.getElem?_take, List.getElem?_drop]
      split
      · rename_i hj
        rw [← hvs _ (by omega), hat j hj]
      · rw [List.getElem?_eq_none (by omega)]

/-- A slice of integers. -/
theorem open_list {t e : TypeId} {k : IntKind} {fuel : Nat} {cs : List Value} {x : DataW H × List MemPlace} (ht : P.underlying t = some (.slice e)) (he : P.underlying e = some (.int k)) (hs : P.cellsOf e = 1)
    (h : DataW.trod enc P w base spare held fuel t cs = some x) (hz : Sized P t x.1) :
    ∃ A n c, ∃ l : List Int, cs = [.slice A n c] ∧ n ≤ c ∧ c ≤ maxLen ∧ n * P.bytesOf e ≤ reachBytes ∧ l.length = n ∧ Reads w w.heap.size 1 A n (l.map (Value.int k)) ∧ ∀ z ∈ l, (Lit.int k z).wf = true := by
  obtain ⟨A, n, c, vs, rfl, hc, hm, hby, hr, hi⟩ := open_reads ht hs (by omega) h hz
  have hl : vs.length = n := by have := hr.1; omega
  have key : ∀ i, i < n → ∃ z, vs[i]? = some (.int k z) ∧ (Lit.int k z).wf = true := by
    intro i hin
    obtain ⟨f, y, hy, _⟩ := hi i hin
    obtain ⟨z, hz, _, hw⟩ := DataW.trod_int he hy
    have h0 : ((vs.drop (i * 1)).take 1)[0]? = vs[i]? := by simp
    rw [hz] at h0
    exact ⟨z, h0.symm, hw⟩
  refine ⟨A, n, c, vs.map intOf, rfl, hc, hm, hby, by simpa using hl, ?_, ?_⟩
  · have : (vs.map intOf).map (Value.int k) = vs := by
      apply List.ext_getElem?
      intro j
      rcases Nat.lt_or_ge j n with hj | hj
      · obtain ⟨z, hz, _⟩ := key j hj
        simp [hz, intOf]
      · rw [List.getElem?_eq_none (by simp; omega), List.getElem?_eq_none (by omega)]
    rw [this]; exact hr
  · intro z hz
    obtain ⟨j, hj, rfl⟩ := List.mem_iff_getElem.1 hz
    have hj' : j < vs.length := by simpa using hj
    obtain ⟨z, hz, hw⟩ := key j (by omega)
    rw [List.getElem?_eq_getElem hj'] at hz
    have : vs[j] = .int k z := by injection hz
    simpa [this, intOf] using hw

def boolOf : Value → Bool | .bool b => b | _ => false
/-- A slice of bools. -/
theorem open_bools {t e : TypeId} {fuel : Nat} {cs : List Value} {x : DataW H × List MemPlace} (ht : P.underlying t = some (.slice e)) (he : P.underlying e = some .bool) (hs : P.cellsOf e = 1)
    (h : DataW.trod enc P w base spare held fuel t cs = some x) (hz : Sized P t x.1) :
    ∃ A n c, ∃ l : List Bool, cs = [.slice A n c] ∧ n ≤ c ∧ c ≤ maxLen ∧ n * P.bytesOf e ≤ reachBytes ∧ l.length = n ∧ Reads w w.heap.size 1 A n (l.map Value.bool) := by
  obtain ⟨A, n, c, vs, rfl, hc, hm, hby, hr, hi⟩ := open_reads ht hs (by omega) h hz
  have hl : vs.length = n := by have := hr.1; omega
  refine ⟨A, n, c, vs.map boolOf, rfl, hc, hm, hby, by simpa using hl, ?_⟩
  have : (vs.map boolOf).map Value.bool = vs := by
    apply List.ext_getElem?
    intro j
    rcases Nat.lt_or_ge j n with hj | hj
    · obtain ⟨f, y, hy, _⟩ := hi j hj
      obtain ⟨z, hz, _⟩ := DataW.trod_bool he hy
      have h0 : ((vs.drop (j * 1)).take 1)[0]? = vs[j]? := by simp
      rw [hz] at h0
      simp [← h0, boolOf]
    · rw [List.getElem?_eq_none (by simp; omega), List.getElem?_eq_none (by omega)]
  rw [this]; exact hr

theorem wf_u64 {x : Int} (h : (Lit.int .u64 x).wf = true) : ∃ n : Nat, x = n ∧ n < 18446744073709551616 := by
  have hx : 0 ≤ x ∧ x ≤ 18446744073709551615 := by simpa [Lit.wf, IntKind.min, IntKind.max, IntKind.signed, IntKind.bits] using h
  exact ⟨x.toNat, by omega, by omega⟩
theorem wf_i64 {x : Int} (h : (Lit.int .i64 x).wf = true) : -9223372036854775808 ≤ x ∧ x ≤ 9223372036854775807 := by
  simpa [Lit.wf, IntKind.min, IntKind.max, IntKind.signed, IntKind.bits] using h
theorem wf_u8 {x : Int} (h : (Lit.int .u8 x).wf = true) : 0 ≤ x ∧ x ≤ 255 := by
  simpa [Lit.wf, IntKind.min, IntKind.max, IntKind.signed, IntKind.bits] using h

/-! ### What a walk is told of an argument -/
def IsInts (k : IntKind) (w : World) (B : Nat) (v : Value) (l : List Int) : Prop :=
  ∃ A c, v = .slice A l.length c ∧ l.length ≤ c ∧ c ≤ maxLen ∧ l.length ≤ 140737488351232 ∧ Reads w B 1 A l.length (l.map (Value.int k)) ∧ ∀ z ∈ l, (Lit.int k z).wf = true
def IsBools (w : World) (B : Nat) (v : Value) (l : List Bool) : Prop :=
  ∃ A c, v = .slice A l.length c ∧ l.length ≤ c ∧ c ≤ maxLen ∧ l.length ≤ 140737488351232 ∧ Reads w B 1 A l.length (l.map Value.bool)
/-- A slice of words, as natural numbers. -/
def wordV (n : Nat) : Value := .int .u64 n
def IsWords (w : World) (B : Nat) (v : Value) (l : List Nat) : Prop :=
  ∃ A c, v = .slice A l.length c ∧ l.length ≤ c ∧ c ≤ maxLen ∧ l.length ≤ 140737488351232 ∧ Reads w B 1 A l.length (l.map wordV) ∧ ∀ z ∈ l, z < 18446744073709551616
def I64 (x : Int) : Prop := -9223372036854775808 ≤ x ∧ x ≤ 9223372036854775807
def IsBits (w : World) (B : Nat) (v : Value) (n : Int) (l : List Nat) : Prop :=
  ∃ s, v = .agg #[.int .i64 n, s] ∧ I64 n ∧ IsWords w B s l
def IsPacked (w : World) (B : Nat) (v : Value) (n m : Int) (l : List Nat) : Prop :=
  ∃ s, v = .agg #[.int .i64 n, .int .i64 m, s] ∧ I64 n ∧ I64 m ∧ IsWords w B s l

variable {r : Reach} {b0 : Nat} {t e : TypeId} {v : Value} {d : DataW H} {ps : List MemPlace}
theorem arg_u64 (ht : P.underlying t = some (.int .u64)) (hv : Value.okWide P w r b0 t v) (h : DataW.Trod enc P w base spare held t v d ps) (hz : Sized P t d) : ∃ n : Nat, v = .int .u64 n ∧ n < 18446744073709551616 := by
  obtain ⟨x, rfl, _, _, hw⟩ := open_int ht hv h
  obtain ⟨n, rfl, hn⟩ := wf_u64 hw
  exact ⟨n, rfl, hn⟩
theorem arg_i64 (ht : P.underlying t = some (.int .i64)) (hv : Value.okWide P w r b0 t v) (h : DataW.Trod enc P w base spare held t v d ps) (hz : Sized P t d) : ∃ x : Int, v = .int .i64 x ∧ I64 x := by
  obtain ⟨x, rfl, _, _, hw⟩ := open_int ht hv h
  exact ⟨x, rfl, wf_i64 hw⟩
theorem arg_bool (ht : P.underlying t = some .bool) (hv : Value.okWide P w r b0 t v) (h : DataW.Trod enc P w base spare held t v d ps) (hz : Sized P t d) : ∃ x : Bool, v = .bool x := by
  obtain ⟨x, rfl, _, _⟩ := open_bool ht hv h
  exact ⟨x, rfl⟩
theorem arg_string (ht : P.underlying t = some .string) (hv : Value.okWide P w r b0 t v) (h : DataW.Trod enc P w base spare held t v d ps) (hz : Sized P t d) : ∃ s : ByteArray, v = .string s ∧ s.size ≤ 140737488351232 := by
  obtain ⟨x, rfl, rfl, _, hs⟩ := Go.ChangeMaps.open_string ht hv h
  have := hz x.data.toList.length (by simp [DataW.weights])
  exact ⟨x, rfl, by simpa [reachBytes] using this⟩
theorem ints_of {k : IntKind} {fuel : Nat} {x : DataW H × List MemPlace} (ht : P.underlying t = some (.slice e)) (he : P.underlying e = some (.int k)) (hs : P.cellsOf e = 1) (hby : 1 ≤ P.bytesOf e)
    (h : DataW.trod enc P w base spare held fuel t [v] = some x) (hz : Sized P t x.1) : ∃ l, IsInts k w w.heap.size v l := by
  obtain ⟨A, n, c, l, hcs, hc, hm, hb, rfl, hr, hw⟩ := open_list ht he hs h hz
  simp only [List.cons.injEq, and_true] at hcs
  have : l.length * 1 ≤ l.length * P.bytesOf e := Nat.mul_le_mul_left _ hby
  have hr2 : reachBytes = 140737488351232 := rfl
  exact ⟨l, A, c, hcs, hc, hm, by omega, hr, hw⟩
theorem arg_ints {k : IntKind} (ht : P.underlying t = some (.slice e)) (he : P.underlying e = some (.int k)) (hs : P.cellsOf e = 1) (hby : 1 ≤ P.bytesOf e) (hv : Value.okWide P w r b0 t v) (h : DataW.Trod enc P w base spare held t v d ps) (hz : Sized P t d) :
    ∃ l, IsInts k w w.heap.size v l := by
  obtain ⟨a, len, cap, rfl⟩ := okWide_slice ht hv
  obtain ⟨fuel, hf⟩ := h
  exact ints_of ht he hs hby hf hz
theorem words_of_ints {B : Nat} {l : List Int} (h : IsInts .u64 w B v l) : ∃ ws, IsWords w B v ws := by
  obtain ⟨A, c, rfl, hc, hm, hb, hr, hw⟩ := h
  refine ⟨l.map Int.toNat, A, c, by simp, by simpa using hc, hm, by simpa using hb, ?_, ?_⟩
  · have : (l.map Int.toNat).map wordV = l.map (Value.int .u64) := by
      rw [List.map_map]
      refine List.map_congr_left fun z hz => ?_
      obtain ⟨n, rfl, _⟩ := wf_u64 (hw z hz)
      rfl
    rw [this, List.length_map]; exact hr
  · intro z hz
    obtain ⟨y, hy, rfl⟩ := List.mem_map.1 hz
    obtain ⟨n, rfl, hn⟩ := wf_u64 (hw y hy)
    simpa using hn
theorem arg_words (ht : P.underlying t = some (.slice e)) (he : P.underlying e = some (.int .u64)) (hs : P.cellsOf e = 1) (hby : 1 ≤ P.bytesOf e) (hv : Value.okWide P w r b0 t v) (h : DataW.Trod enc P w base spare held t v d ps) (hz : Sized P t d) :
    ∃ l, IsWords w w.heap.size v l := by
  obtain ⟨l, hl⟩ := arg_ints ht he hs hby hv h hz
  exact words_of_ints hl
theorem arg_bools (ht : P.underlying t = some (.slice e)) (he : P.underlying e = some .bool) (hs : P.cellsOf e = 1) (hby : 1 ≤ P.bytesOf e) (hv : Value.okWide P w r b0 t v) (h : DataW.Trod enc P w base spare held t v d ps) (hz : Sized P t d) :
    ∃ l, IsBools w w.heap.size v l := by
  obtain ⟨a, len, cap, rfl⟩ := okWide_slice ht hv
  obtain ⟨fuel, hf⟩ := h
  obtain ⟨A, n, c, l, hcs, hc, hm, hb, rfl, hr⟩ := open_bools ht he hs hf hz
  simp only [Value.cells, List.cons.injEq, and_true] at hcs
  have : l.length * 1 ≤ l.length * P.bytesOf e := Nat.mul_le_mul_left _ hby
  have hr2 : reachBytes = 140737488351232 := rfl
  exact ⟨l, A, c, hcs, hc, hm, by omega, hr⟩
theorem arg_bits {f0 f1 : Field} {u : TypeId} (ht : P.underlying t = some (.struct #[f0, f1])) (h0 : P.underlying f0.type = some (.int .i64)) (h1 : P.underlying f1.type = some (.slice u)) (hu : P.underlying u = some (.int .u64)) (hs : P.cellsOf u = 1) (hby : 1 ≤ P.bytesOf u)
    (hone : oneCellFields P #[f0, f1] = true) (hC : P.cellsOf t = 2) (hv : Value.okWide P w r b0 t v) (h : DataW.Trod enc P w base spare held t v d ps) (hz : Sized P t d) :
    ∃ n l, IsBits w w.heap.size v n l := by
  obtain ⟨v0, v1, y0, y1, n, rfl, rfl, _, t0, t1⟩ := open_agg2 ht hone hC hv h
  obtain ⟨x, hx, _, hw⟩ := DataW.trod_int h0 t0
  simp only [List.cons.injEq, and_true] at hx
  subst hx
  obtain ⟨l, hl⟩ := ints_of h1 hu hs hby t1 (hz.field ht (j := 1) rfl rfl)
  obtain ⟨ws, hws⟩ := words_of_ints hl
  exact ⟨x, ws, v1, rfl, wf_i64 hw, hws⟩
theorem arg_packed {f0 f1 f2 : Field} {u : TypeId} (ht : P.underlying t = some (.struct #[f0, f1, f2])) (h0 : P.underlying f0.type = some (.int .i64)) (h0' : P.underlying f1.type = some (.int .i64)) (h1 : P.underlying f2.type = some (.slice u)) (hu : P.underlying u = some (.int .u64)) (hs : P.cellsOf u = 1) (hby : 1 ≤ P.bytesOf u)
    (hone : oneCellFields P #[f0, f1, f2] = true) (hC : P.cellsOf t = 3) (hv : Value.okWide P w r b0 t v) (h : DataW.Trod enc P w base spare held t v d ps) (hz : Sized P t d) :
    ∃ n m l, IsPacked w w.heap.size v n m l := by
  obtain ⟨v0, v1, v2, y0, y1, y2, n, rfl, rfl, _, t0, t1, t2⟩ := open_agg3 ht hone hC hv h
  obtain ⟨x, hx, _, hw⟩ := DataW.trod_int h0 t0
  simp only [List.cons.injEq, and_true] at hx
  subst hx
  obtain ⟨z, hz', _, hw'⟩ := DataW.trod_int h0' t1
  simp only [List.cons.injEq, and_true] at hz'
  subst hz'
  obtain ⟨l, hl⟩ := ints_of h1 hu hs hby t2 (hz.field ht (j := 2) rfl rfl)
  obtain ⟨ws, hws⟩ := words_of_ints hl
  exact ⟨x, z, ws, v2, rfl, wf_i64 hw, wf_i64 hw', hws⟩
end
section
variable {k : IntKind} {w w' : World} {B B' : Nat} {v : Value} {l : List Int} {ws : List Nat} {lb : List Bool}
theorem IsInts.below (h : IsInts k w B v l) (hb : Below B w w') : IsInts k w' B v l := by
  obtain ⟨A, c, rfl, h1, h2, h5, h3, h4⟩ := h
  exact ⟨A, c, rfl, h1, h2, h5, h3.below hb, h4⟩
theorem IsWords.below (h : IsWords w B v ws) (hb : Below B w w') : IsWords w' B v ws := by
  obtain ⟨A, c, rfl, h1, h2, h5, h3, h4⟩ := h
  exact ⟨A, c, rfl, h1, h2, h5, h3.below hb, h4⟩
theorem IsBools.below (h : IsBools w B v lb) (hb : Below B w w') : IsBools w' B v lb := by
  obtain ⟨A, c, rfl, h1, h2, h5, h3⟩ := h
  exact ⟨A, c, rfl, h1, h2, h5, h3.below hb⟩
theorem IsInts.more (h : IsInts k w B v l) (hB : B ≤ B') : IsInts k w B' v l := by
  obtain ⟨A, c, rfl, h1, h2, h5, h3, h4⟩ := h
  exact ⟨A, c, rfl, h1, h2, h5, h3.more hB, h4⟩
theorem IsWords.more (h : IsWords w B v ws) (hB : B ≤ B') : IsWords w B' v ws := by
  obtain ⟨A, c, rfl, h1, h2, h5, h3, h4⟩ := h
  exact ⟨A, c, rfl, h1, h2, h5, h3.more hB, h4⟩
theorem IsBits.below {n : Int} (h : IsBits w B v n ws) (hb : Below B w w') : IsBits w' B v n ws := by
  obtain ⟨s, rfl, h1, h2⟩ := h
  exact ⟨s, rfl, h1, h2.below hb⟩
theorem IsBits.more {n : Int} (h : IsBits w B v n ws) (hB : B ≤ B') : IsBits w B' v n ws := by
  obtain ⟨s, rfl, h1, h2⟩ := h
  exact ⟨s, rfl, h1, h2.more hB⟩
theorem IsPacked.below {n m : Int} (h : IsPacked w B v n m ws) (hb : Below B w w') : IsPacked w' B v n m ws := by
  obtain ⟨s, rfl, h1, h1', h2⟩ := h
  exact ⟨s, rfl, h1, h1', h2.below hb⟩
end

/-! ### append of one element onto a row of the call's own -/
/-- What the program's tables say of a slice type T and its element type E. -/
structure El (P : Program) (T E : TypeId) (z : Value) (size bytes : Nat) : Prop where
  ht : P.underlying T = some (.slice E)
  hi : (P.info? E).map (fun i => (i.zero, i.size, i.bytes)) = some (some z, size, bytes)
  hz : z.cells.size = size
  hs : 0 < size
section
variable {P : Program} {w : World}
theorem El.info {T E : TypeId} {z : Value} {size bytes : Nat} (h : El P T E z size bytes) : ∃ i, P.info? E = some i ∧ i.zero = some z ∧ i.size = size ∧ i.bytes = bytes := by
  have := h.hi
  cases hi : P.info? E with
  | none => rw [hi] at this; simp at this
  | some i =>
    rw [hi] at this
    simp at this
    exact ⟨i, rfl, this.1, this.2.1, this.2.2⟩
/-- append(s, x), x one element of one cell: it lies in the new block g. -/
theorem wpList_push {T E : TypeId} {z : Value} {bytes : Nat} (el : El P T E z 1 bytes) {ops : Array Oper} {rest : List Oper} {o : Oper} {a : Act} {Q : Exit → Act → World → Prop} (hgd : o.guard = none) (s x : Operand)
    (ho : o.op = .call { callee := .builtin .append, args := #[s, x], argTypes := #[T, T] })
    (base : Nat) (v : Value) (n : Nat) (xs : List Value) (hown : w.ownsRow base E 1 v n xs) (hs : a.eval s = v)
    (g c : Nat) (u : Value) (hx : a.eval x = .slice (some ⟨g, 0, none⟩) 1 c) (hu : w.cell? ⟨g, 0, none⟩ = some u) (h1 : u.oneCell' = true)
    (h63 : n + 1 ≤ 140737488355328) (hbytes : (n + 1) * bytes ≤ 140737488355328) (hbase : base ≤ w.heap.size)
    (h : ∀ v' w', w'.ownsRow base E 1 v' (n + 1) (xs ++ [u]) → w.grownBy w' v.ownBlock → wpList P ops Q rest (a.put o.dst v') w') : wpList P ops Q (o :: rest) a w := by
  obtain ⟨i, hi, hz, hz1, hz2⟩ := el.info
  refine wpList_append_own w hgd s x T ho base E i z 1 bytes el.ht hi hz hz1 hz2 el.hz (by omega) v n xs hs hown ⟨g, 0, none⟩ 1 c [u] hx rfl ?_ ?_ (by unfold maxLen; omega) hbytes hbase fun v' w' h2 h3 _ => h v' w' h2 h3
  · intro j y hj
    cases j with
    | zero => simp at hj; subst hj; exact hu
    | succ j => simp at hj
  · intro y hy
    simp at hy; subst hy; exact h1
/-- What is kept below B over such an append. -/
theorem below_push {B : Nat} {w0 w w' : World} {base : Nat} {E : TypeId} {size n : Nat} {v : Value} {xs : List Value} (hb : Below B w0 w) (hown : w.ownsRow base E size v n xs) (hB : B ≤ base) (hz : B ≤ w.heap.size) (hg : w.grownBy w' v.ownBlock) : Below B w0 w' :=
  hb.grown hg hz fun k hk => Nat.le_trans hB (hown.lt k hk).1
theorem own_bools {base E n : Nat} {v : Value} {l : List Bool} (h : w.ownsRow base E 1 v n (l.map Value.bool)) (hn : l.length ≤ 140737488351232) : IsBools w w.heap.size v l := by
  have hl : l.length = n := by have := h.1; simpa using this
  subst hl
  rcases h.2 with ⟨rfl, h0⟩ | ⟨g, cap, cur, rfl, _, _, hnc, hcm, _⟩
  · exact ⟨none, 0, by rw [h0], by omega, by omega, hn, h.1, fun hp => absurd hp (by omega)⟩
  · exact ⟨_, cap, rfl, hnc, hcm, hn, Reads.of_own h⟩
theorem own_ints {k : IntKind} {base E n : Nat} {v : Value} {l : List Int} (h : w.ownsRow base E 1 v n (l.map (Value.int k))) (hn : l.length ≤ 140737488351232) (hw : ∀ z ∈ l, (Lit.int k z).wf = true) : IsInts k w w.heap.size v l := by
  have hl : l.length = n := by have := h.1; simpa using this
  subst hl
  rcases h.2 with ⟨rfl, h0⟩ | ⟨g, cap, cur, rfl, _, _, hnc, hcm, _⟩
  · exact ⟨none, 0, by rw [h0], by omega, by omega, hn, ⟨h.1, fun hp => absurd hp (by omega)⟩, hw⟩
  · exact ⟨_, cap, rfl, hnc, hcm, hn, Reads.of_own h, hw⟩
theorem own_words {base E n : Nat} {v : Value} {l : List Nat} (h : w.ownsRow base E 1 v n (l.map wordV)) (hn : l.length ≤ 140737488351232) (hw : ∀ z ∈ l, z < 18446744073709551616) : IsWords w w.heap.size v l := by
  have hl : l.length = n := by have := h.1; simpa using this
  subst hl
  rcases h.2 with ⟨rfl, h0⟩ | ⟨g, cap, cur, rfl, _, _, hnc, hcm, _⟩
  · exact ⟨none, 0, by rw [h0], by omega, by omega, hn, ⟨h.1, fun hp => absurd hp (by omega)⟩, hw⟩
  · exact ⟨_, cap, rfl, hnc, hcm, hn, Reads.of_own h, hw⟩
theorem bools_at {B : Nat} {A : Option Addr} {l : List Bool} (hr : Reads w B 1 A l.length (l.map Value.bool)) (hn : 0 < l.length) :
    ∃ b off, A = some ⟨b, off, none⟩ ∧ b < B ∧ ∀ k, k < l.length → w.cell? ⟨b, off + k, none⟩ = some (.bool (l.getD k false)) := by
  obtain ⟨b, off, e, hb, hc⟩ := hr.addr hn
  refine ⟨b, off, e, hb, fun k hk => ?_⟩
  obtain ⟨u, hx, hu⟩ := hc k hk
  rw [hu, ← hx]
  simp [hk]
theorem ints_cells {k : IntKind} {B : Nat} {A : Option Addr} {l : List Int} (hr : Reads w B 1 A l.length (l.map (Value.int k))) (hn : 0 < l.length) :
    ∃ b off, A = some ⟨b, off, none⟩ ∧ b < B ∧ ∀ j, j < l.length → w.cell? ⟨b, off + j, none⟩ = some (.int k (l.getD j 0)) := by
  obtain ⟨b, off, e, hb, hc⟩ := hr.addr hn
  refine ⟨b, off, e, hb, fun j hj => ?_⟩
  obtain ⟨u, hx, hu⟩ := hc j hj
  rw [hu, ← hx]
  simp [hj]
end

/-! ### make([]T, n) -/
theorem run_make_rowN {P : Program} (t e : TypeId) (i : TypeInfo) (z : Value) (ht : P.underlying t = some (.slice e)) (hi : P.info? e = some i) (hz : i.zero = some z)
    (kl kc : IntKind) (n c : Nat) (hnc : n ≤ c) (hbytes : i.bytes * c ≤ 281474976710656) (h63 : c ≤ 9223372036854775807) (w : World) :
    (Instr.makeSlice t (.int kl (n : Int)) (.int kc (c : Int))).run P w = .ok (.slice (some ⟨w.heap.size, 0, none⟩) n c) (w.alloc (.cells (madeCells z.cells (c * i.size)) e)) := by
  have hb : (i.bytes : Int) * (c : Int) ≤ 281474976710656 := by
    have h : ((i.bytes * c : Nat) : Int) ≤ 281474976710656 := by omega
    rwa [Int.natCast_mul] at h
  have hr := run_make (P := P) w t e i z ht hi hz kl kc n c (by omega) (by omega) hb (by omega)
  simp only [Int.toNat_natCast] at hr
  exact hr
/-- make([]T, n), T one cell: a row of n zeros. -/
theorem run_make1 {P : Program} {T E : TypeId} {z : Value} {bytes : Nat} (el : El P T E z 1 bytes) (h1 : z.cells = #[z]) (x : Int) (n : Nat) (hx : x = n) (hn : bytes * n ≤ 281474976710656) (h63 : n ≤ 9223372036854775807) (w : World) :
    (Instr.makeSlice T (.int .i64 x) (.int .i64 x)).run P w = .ok (.slice (some ⟨w.heap.size, 0, none⟩) n n) (w.alloc (.cells (List.replicate n z).toArray E)) := by
  subst hx
  obtain ⟨i, hi, hz, hz1, hz2⟩ := el.info
  rw [run_make_rowN T E i z el.ht hi hz .i64 .i64 n n (Nat.le_refl _) (by rw [hz2]; exact hn) h63 w, hz1, h1]
  congr 3
  have : madeCells #[z] (n * 1) = (List.replicate n z).toArray := by
    unfold madeCells
    apply Array.ext
    · simp
    · intro j h1 h2
      have : j % 1 = 0 := Nat.mod_one j
      simp [this]
  rw [this]
theorem own_shape {w : World} {base : Nat} {e : TypeId} {size n : Nat} {v : Value} {xs : List Value} (h : w.ownsRow base e size v n xs) : ∃ A c, v = .slice A n c := by
  rcases ownsRow_forms h with ⟨rfl, rfl⟩ | ⟨g, cap, rfl⟩
  · exact ⟨_, _, rfl⟩
  · exact ⟨_, _, rfl⟩
theorem own_ne {w : World} {base k : Nat} {e : TypeId} {size n : Nat} {v : Value} {xs : List Value} (h : w.ownsRow base e size v n xs) (hk : k < base) : v.ownBlock ≠ some k := fun e => by
  have := (h.lt k e).1; omega
end Go.Dam

/-
  Plain arithmetic on words of 64 bits, no program in sight: how many bits are set (by halves, as math/bits counts them), and a word turned round. Conditions: each word is below 2 to the 64th.
-/
namespace Go.Dam
set_option linter.unusedVariables false
open Go

/-- How many of the bits below place i are set. -/
def cnt (n : Nat) : Nat → Nat
  | 0 => 0
  | i + 1 => cnt n i + n / 2 ^ i % 2
theorem cnt_le (n i : Nat) : cnt n i ≤ i := by
  induction i with
  | zero => exact Nat.le_refl _
  | succ i ih => simp only [cnt]; have := Nat.mod_lt (n / 2 ^ i) (by omega : 0 < 2); omega
theorem cnt_mono (n : Nat) {i j : Nat} (h : i ≤ j) : cnt n i ≤ cnt n j := by
  induction j with
  | zero => simp [Nat.le_zero.1 h]
  | succ j ih =>
    rcases Nat.lt_or_ge i (j + 1) with hlt | hge
    · have := ih (by omega); simp only [cnt]; omega
    · rw [Nat.le_antisymm h hge]; exact Nat.le_refl _
theorem div_pow_add (n i j : Nat) : n / 2 ^ (i + j) = n / 2 ^ i / 2 ^ j := by rw [Nat.pow_add, Nat.div_div_eq_div_mul]
theorem cnt_add (n i j : Nat) : cnt n (i + j) = cnt n i + cnt (n / 2 ^ i) j := by
  induction j with
  | zero => simp [cnt]
  | succ j ih =>
    show cnt n (i + j) + n / 2 ^ (i + j) % 2 = _
    rw [ih, div_pow_add]; simp only [cnt]; omega
theorem cnt_mod (n : Nat) {i j : Nat} (h : i ≤ j) : cnt (n % 2 ^ j) i = cnt n i := by
  induction i with
  | zero => rfl
  | succ i ih =>
    simp only [cnt]
    rw [ih (by omega)]
    have : n % 2 ^ j / 2 ^ i % 2 = n / 2 ^ i % 2 := by
      have h1 : (n % 2 ^ j).testBit i = n.testBit i := by rw [Nat.testBit_mod_two_pow]; simp; intro; omega
      simp only [Nat.testBit, Nat.shiftRight_eq_div_pow, Nat.one_and_eq_mod_two] at h1
      have a := Nat.mod_two_eq_zero_or_one (n % 2 ^ j / 2 ^ i)
      have b := Nat.mod_two_eq_zero_or_one (n / 2 ^ i)
      rcases a with a | a <;> rcases b with b | b <;> simp [a, b] at h1 ⊢
    rw [this]
theorem cnt_zero (i : Nat) : cnt 0 i = 0 := by
  induction i with
  | zero => rfl
  | succ i ih => simp [cnt, ih]

/-- '&' part by part. -/
theorem and_parts (k a b c d : Nat) (ha : a < 2 ^ k) (hc : c < 2 ^ k) : (a + 2 ^ k * b) &&& (c + 2 ^ k * d) = (a &&& c) + 2 ^ k * (b &&& d) := by
  have hac : (a &&& c) < 2 ^ k := Nat.and_lt_two_pow _ hc
  apply Nat.eq_of_testBit_eq
  intro i
  rw [Nat.testBit_and, Nat.add_comm a, Nat.add_comm c, Nat.add_comm (a &&& c), Nat.testBit_two_pow_mul_add _ ha, Nat.testBit_two_pow_mul_add _ hc, Nat.testBit_two_pow_mul_add _ hac]
  split <;> simp [Nat.testBit_and]

/-! ### math/bits.OnesCount64's steps -/
def oc1 (n : Nat) : Nat := (n / 2 &&& 6148914691236517205) + (n &&& 6148914691236517205)
def oc2 (n : Nat) : Nat := (n / 4 &&& 3689348814741910323) + (n &&& 3689348814741910323)
def oc3 (n : Nat) : Nat := (n / 16 + n) &&& 1085102592571150095
def oc4 (n : Nat) : Nat := n + n / 256
def oc5 (n : Nat) : Nat := n + n / 65536
def oc6 (n : Nat) : Nat := n + n / 4294967296


def rep (d : Nat) : Nat → Nat
  | 0 => 0
  | m + 1 => d + 256 * rep d m
/-- Each byte is put through f. -/
def bytewise (f : Nat → Nat) : Nat → Nat → Nat
  | 0, _ => 0
  | m + 1, n => f (n % 256) + 256 * bytewise f m (n / 256)
theorem bytewise_comp (f g : Nat → Nat) (hg : ∀ b, b < 256 → g b < 256) (m n : Nat) : bytewise f m (bytewise g m n) = bytewise (fun b => f (g b)) m n := by
  induction m generalizing n with
  | zero => rfl
  | succ m ih =>
    have hb := hg (n % 256) (Nat.mod_lt _ (by omega))
    simp only [bytewise]
    rw [show (g (n % 256) + 256 * bytewise g m (n / 256)) % 256 = g (n % 256) from by omega, show (g (n % 256) + 256 * bytewise g m (n / 256)) / 256 = bytewise g m (n / 256) from by omega, ih]
theorem bytewise_congr {f g : Nat → Nat} (h : ∀ b, b < 256 → f b = g b) (m n : Nat) : bytewise f m n = bytewise g m n := by
  induction m generalizing n with
  | zero => rfl
  | succ m ih => simp only [bytewise]; rw [h _ (Nat.mod_lt _ (by omega)), ih]
theorem low85 : ∀ r < 256, ∀ b < 2, (r / 2 + 128 * b) &&& 85 = r / 2 &&& 85 := by decide +kernel
theorem low51 : ∀ r < 256, ∀ b < 4, (r / 4 + 64 * b) &&& 51 = r / 4 &&& 51 := by decide +kernel
theorem oc1_bytes (m n : Nat) : (n / 2 &&& rep 85 m) + (n &&& rep 85 m) = bytewise (fun b => (b / 2 &&& 85) + (b &&& 85)) m n := by
  induction m generalizing n with
  | zero => simp [rep, bytewise]
  | succ m ih =>
    simp only [rep, bytewise]
    rw [← ih (n / 256)]
    have h1 : n &&& (85 + 256 * rep 85 m) = (n % 256 &&& 85) + 256 * (n / 256 &&& rep 85 m) := by
      have := and_parts 8 (n % 256) (n / 256) 85 (rep 85 m) (Nat.mod_lt _ (by omega)) (by omega)
      rwa [show n % 256 + 2 ^ 8 * (n / 256) = n from by omega] at this
    have h2 : n / 2 &&& (85 + 256 * rep 85 m) = (n % 256 / 2 &&& 85) + 256 * (n / 256 / 2 &&& rep 85 m) := by
      have := and_parts 8 (n % 256 / 2 + 128 * (n / 256 % 2)) (n / 256 / 2) 85 (rep 85 m) (by omega) (by omega)
      rw [low85 _ (Nat.mod_lt _ (by omega)) _ (Nat.mod_lt _ (by omega))] at this
      rwa [show n % 256 / 2 + 128 * (n / 256 % 2) + 2 ^ 8 * (n / 256 / 2) = n / 2 from by omega] at this
    rw [h1, h2]; omega
theorem oc2_bytes (m n : Nat) : (n / 4 &&& rep 51 m) + (n &&& rep 51 m) = bytewise (fun b => (b / 4 &&& 51) + (b &&& 51)) m n := by
  induction m generalizing n with
  | zero => simp [rep, bytewise]
  | succ m ih =>
    simp only [rep, bytewise]
    rw [← ih (n / 256)]
    have h1 : n &&& (51 + 256 * rep 51 m) = (n % 256 &&& 51) + 256 * (n / 256 &&& rep 51 m) := by
      have := and_parts 8 (n % 256) (n / 256) 51 (rep 51 m) (Nat.mod_lt _ (by omega)) (by omega)
      rwa [show n % 256 + 2 ^ 8 * (n / 256) = n from by omega] at this
    have h2 : n / 4 &&& (51 + 256 * rep 51 m) = (n % 256 / 4 &&& 51) + 256 * (n / 256 / 4 &&& rep 51 m) := by
      have := and_parts 8 (n % 256 / 4 + 64 * (n / 256 % 4)) (n / 256 / 4) 51 (rep 51 m) (by omega) (by omega)
      rw [low51 _ (Nat.mod_lt _ (by omega)) _ (Nat.mod_lt _ (by omega))] at this
      rwa [show n % 256 / 4 + 64 * (n / 256 % 4) + 2 ^ 8 * (n / 256 / 4) = n / 4 from by omega] at this
    rw [h1, h2]; omega
theorem oc3_bytes (f : Nat → Nat) (hf : ∀ b, b < 256 → f b ≤ 68 ∧ f b % 16 ≤ 4) (m n : Nat) : (bytewise f m n / 16 + bytewise f m n) &&& rep 15 m = bytewise (fun b => f b / 16 + f b &&& 15) m n := by
  induction m generalizing n with
  | zero => simp [rep, bytewise]
  | succ m ih =>
    have hb := hf (n % 256) (Nat.mod_lt _ (by omega))
    have hq : bytewise f m (n / 256) % 16 ≤ 4 := by
      cases m with
      | zero => simp [bytewise]
      | succ m => have := (hf (n / 256 % 256) (Nat.mod_lt _ (by omega))).2; simp only [bytewise]; omega
    simp only [rep, bytewise]
    rw [← ih (n / 256)]
    generalize hy : bytewise f m (n / 256) = q at *
    have := and_parts 8 (f (n % 256) / 16 + 16 * (q % 16) + f (n % 256)) (q / 16 + q) 15 (rep 15 m) (by omega) (by omega)
    rw [show f (n % 256) / 16 + 16 * (q % 16) + f (n % 256) + 2 ^ 8 * (q / 16 + q) = (f (n % 256) + 256 * q) / 16 + (f (n % 256) + 256 * q) from by omega] at this
    rw [show (15 + 256 * rep 15 m) = 15 + 2 ^ 8 * rep 15 m from rfl, this]
    congr 1
    rw [Nat.and_two_pow_sub_one_eq_mod _ 4, Nat.and_two_pow_sub_one_eq_mod _ 4]; omega
theorem oc_byte : ∀ b < 256, (((b / 2 &&& 85) + (b &&& 85)) / 4 &&& 51) + ((b / 2 &&& 85) + (b &&& 85) &&& 51) ≤ 68 ∧ ((((b / 2 &&& 85) + (b &&& 85)) / 4 &&& 51) + ((b / 2 &&& 85) + (b &&& 85) &&& 51)) % 16 ≤ 4 := by decide +kernel
theorem oc_byte' : ∀ b < 256, ((((b / 2 &&& 85) + (b &&& 85)) / 4 &&& 51) + ((b / 2 &&& 85) + (b &&& 85) &&& 51)) / 16 + ((((b / 2 &&& 85) + (b &&& 85)) / 4 &&& 51) + ((b / 2 &&& 85) + (b &&& 85) &&& 51)) &&& 15 = cnt b 8 := by decide +kernel
theorem oc_byte1 : ∀ b < 256, (b / 2 &&& 85) + (b &&& 85) < 256 := by decide +kernel
theorem oc123 (n : Nat) : oc3 (oc2 (oc1 n)) = bytewise (fun b => cnt b 8) 8 n := by
  have h1 : oc1 n = _ := oc1_bytes 8 n
  have h2 : oc2 (oc1 n) = _ := oc2_bytes 8 (oc1 n)
  rw [h1, bytewise_comp _ _ oc_byte1] at h2
  have h3 : oc3 (oc2 (oc1 n)) = (oc2 (oc1 n) / 16 + oc2 (oc1 n)) &&& rep 15 8 := rfl
  rw [h1, h2, oc3_bytes _ oc_byte] at h3
  rw [h1, h2, h3]
  exact bytewise_congr oc_byte' 8 n
theorem cnt_byte (n i : Nat) : cnt n (8 + i) = cnt (n % 256) 8 + cnt (n / 256) i := by
  rw [cnt_add, ← cnt_mod n (Nat.le_refl 8)]
theorem div_low (a b B : Nat) (h : a < B) : (a + B * b) / B = b := by
  rw [Nat.add_mul_div_left _ _ (by omega), Nat.div_eq_of_lt h, Nat.zero_add]
theorem half8 (p0 p1 p2 p3 p4 p5 p6 p7 : Nat) (h0 : p0 ≤ 8) (h1 : p1 ≤ 8) (h2 : p2 ≤ 8) (h3 : p3 ≤ 8) (h4 : p4 ≤ 8) (h5 : p5 ≤ 8) (h6 : p6 ≤ 8) (h7 : p7 ≤ 8) :
    p0 + 256 * (p1 + 256 * (p2 + 256 * (p3 + 256 * (p4 + 256 * (p5 + 256 * (p6 + 256 * (p7 + 256 * 0))))))) + (p0 + 256 * (p1 + 256 * (p2 + 256 * (p3 + 256 * (p4 + 256 * (p5 + 256 * (p6 + 256 * (p7 + 256 * 0)))))))) / 256 =
    (p0 + p1) + 256 * ((p1 + p2) + 256 * ((p2 + p3) + 256 * ((p3 + p4) + 256 * ((p4 + p5) + 256 * ((p5 + p6) + 256 * ((p6 + p7) + 256 * p7)))))) := by
  rw [div_low _ _ 256 (by omega)]; omega
theorem half8b (p0 p1 p2 p3 p4 p5 p6 p7 : Nat) (h0 : p0 ≤ 16) (h1 : p1 ≤ 16) (h2 : p2 ≤ 16) (h3 : p3 ≤ 16) (h4 : p4 ≤ 16) (h5 : p5 ≤ 16) (h6 : p6 ≤ 16) (h7 : p7 ≤ 16) :
    p0 + 256 * (p1 + 256 * (p2 + 256 * (p3 + 256 * (p4 + 256 * (p5 + 256 * (p6 + 256 * p7)))))) + (p0 + 256 * (p1 + 256 * (p2 + 256 * (p3 + 256 * (p4 + 256 * (p5 + 256 * (p6 + 256 * p7))))))) / 65536 =
    (p0 + p2) + 256 * ((p1 + p3) + 256 * ((p2 + p4) + 256 * ((p3 + p5) + 256 * ((p4 + p6) + 256 * ((p5 + p7) + 256 * (p6 + 256 * p7)))))) := by
  have : p0 + 256 * (p1 + 256 * (p2 + 256 * (p3 + 256 * (p4 + 256 * (p5 + 256 * (p6 + 256 * p7)))))) = (p0 + 256 * p1) + 65536 * (p2 + 256 * (p3 + 256 * (p4 + 256 * (p5 + 256 * (p6 + 256 * p7))))) := by omega
  rw [this, div_low _ _ 65536 (by omega)]; omega
theorem half8c (p0 p1 p2 p3 p4 p5 p6 p7 : Nat) (h0 : p0 ≤ 32) (h1 : p1 ≤ 32) (h2 : p2 ≤ 32) (h3 : p3 ≤ 32) (h4 : p4 ≤ 32) (h5 : p5 ≤ 32) (h6 : p6 ≤ 32) (h7 : p7 ≤ 32) :
    (p0 + 256 * (p1 + 256 * (p2 + 256 * (p3 + 256 * (p4 + 256 * (p5 + 256 * (p6 + 256 * p7)))))) + (p0 + 256 * (p1 + 256 * (p2 + 256 * (p3 + 256 * (p4 + 256 * (p5 + 256 * (p6 + 256 * p7))))))) / 4294967296) % 128 = p0 + p4 := by
  have : p0 + 256 * (p1 + 256 * (p2 + 256 * (p3 + 256 * (p4 + 256 * (p5 + 256 * (p6 + 256 * p7)))))) = (p0 + 256 * (p1 + 256 * (p2 + 256 * p3))) + 4294967296 * (p4 + 256 * (p5 + 256 * (p6 + 256 * p7))) := by omega
  rw [this, div_low _ _ 4294967296 (by omega)]; omega
theorem ones_count (n : Nat) : oc6 (oc5 (oc4 (oc3 (oc2 (oc1 n))))) % 128 = cnt n 64 := by
  have key : cnt n 64 = _ := cnt_byte n 56
  rw [show (56 : Nat) = 8 + 48 from rfl, cnt_byte, show (48 : Nat) = 8 + 40 from rfl, cnt_byte, show (40 : Nat) = 8 + 32 from rfl, cnt_byte, show (32 : Nat) = 8 + 24 from rfl, cnt_byte, show (24 : Nat) = 8 + 16 from rfl, cnt_byte,
    show (16 : Nat) = 8 + 8 from rfl, cnt_byte, show cnt (n / 256 / 256 / 256 / 256 / 256 / 256 / 256) 8 = cnt (n / 256 / 256 / 256 / 256 / 256 / 256 / 256 % 256) 8 from (cnt_mod _ (Nat.le_refl 8)).symm] at key
  rw [key, oc123]
  simp only [bytewise, oc4, oc5, oc6]
  have b0 := cnt_le (n % 256) 8
  have b1 := cnt_le (n / 256 % 256) 8
  have b2 := cnt_le (n / 256 / 256 % 256) 8
  have b3 := cnt_le (n / 256 / 256 / 256 % 256) 8
  have b4 := cnt_le (n / 256 / 256 / 256 / 256 % 256) 8
  have b5 := cnt_le (n / 256 / 256 / 256 / 256 / 256 % 256) 8
  have b6 := cnt_le (n / 256 / 256 / 256 / 256 / 256 / 256 % 256) 8
  have b7 := cnt_le (n / 256 / 256 / 256 / 256 / 256 / 256 / 256 % 256) 8
  generalize cnt (n % 256) 8 = p0 at *
  generalize cnt (n / 256 % 256) 8 = p1 at *
  generalize cnt (n / 256 / 256 % 256) 8 = p2 at *
  generalize cnt (n / 256 / 256 / 256 % 256) 8 = p3 at *
  generalize cnt (n / 256 / 256 / 256 / 256 % 256) 8 = p4 at *
  generalize cnt (n / 256 / 256 / 256 / 256 / 256 % 256) 8 = p5 at *
  generalize cnt (n / 256 / 256 / 256 / 256 / 256 / 256 % 256) 8 = p6 at *
  generalize cnt (n / 256 / 256 / 256 / 256 / 256 / 256 / 256 % 256) 8 = p7 at *
  clear key
  have e1 := half8 p0 p1 p2 p3 p4 p5 p6 p7 b0 b1 b2 b3 b4 b5 b6 b7
  rw [e1]
  clear e1
  have e2 := half8b (p0 + p1) (p1 + p2) (p2 + p3) (p3 + p4) (p4 + p5) (p5 + p6) (p6 + p7) p7 (by omega) (by omega) (by omega) (by omega) (by omega) (by omega) (by omega) (by omega)
  rw [e2]
  clear e2
  rw [half8c (p0 + p1 + (p2 + p3)) (p1 + p2 + (p3 + p4)) (p2 + p3 + (p4 + p5)) (p3 + p4 + (p5 + p6)) (p4 + p5 + (p6 + p7)) (p5 + p6 + p7) (p6 + p7) p7 (by omega) (by omega) (by omega) (by omega) (by omega) (by omega) (by omega) (by omega)]
  omega

/-! ### math/bits.Reverse64 -/
def rv (k m n : Nat) : Nat := (n / 2 ^ k &&& m) ||| ((n &&& m) * 2 ^ k)
def Swaps (k m : Nat) : Prop := ∀ i < 64, (m.testBit i = true → i ^^^ k = i + k ∧ i + k < 64 ∧ (k ≤ i → m.testBit (i - k) = false)) ∧ (m.testBit i = false → k ≤ i ∧ m.testBit (i - k) = true ∧ i ^^^ k = i - k)
theorem rv_bit {k m : Nat} (h : Swaps k m) (n i : Nat) (hi : i < 64) : (rv k m n).testBit i = n.testBit (i ^^^ k) := by
  obtain ⟨h1, h2⟩ := h i hi
  unfold rv
  rw [Nat.testBit_or, Nat.testBit_and, Nat.testBit_mul_two_pow, Nat.testBit_and, Nat.testBit_div_two_pow]
  cases hm : m.testBit i with
  | true =>
    obtain ⟨e, _, hk⟩ := h1 hm
    rw [e]
    by_cases hki : k ≤ i
    · rw [hk hki]; simp [Nat.add_comm]
    · simp [hki, Nat.add_comm]
  | false =>
    obtain ⟨hki, hm', e⟩ := h2 hm
    rw [e, hm']; simp [hki]
theorem sw1 : Swaps 1 6148914691236517205 := by unfold Swaps; decide +kernel
theorem sw2 : Swaps 2 3689348814741910323 := by unfold Swaps; decide +kernel
theorem sw4 : Swaps 4 1085102592571150095 := by unfold Swaps; decide +kernel
theorem sw8 : Swaps 8 71777214294589695 := by unfold Swaps; decide +kernel
theorem sw16 : Swaps 16 281470681808895 := by unfold Swaps; decide +kernel
theorem sw32 : Swaps 32 4294967295 := by unfold Swaps; decide +kernel
theorem xors : ∀ i < 64, ((((((i ^^^ 32) ^^^ 16) ^^^ 8) ^^^ 4) ^^^ 2) ^^^ 1) = 63 - i ∧ (i ^^^ 32) < 64 ∧ ((i ^^^ 32) ^^^ 16) < 64 ∧ (((i ^^^ 32) ^^^ 16) ^^^ 8) < 64 ∧ ((((i ^^^ 32) ^^^ 16) ^^^ 8) ^^^ 4) < 64 ∧ (((((i ^^^ 32) ^^^ 16) ^^^ 8) ^^^ 4) ^^^ 2) < 64 := by decide +kernel
def rev64 (n : Nat) : Nat := rv 32 4294967295 (rv 16 281470681808895 (rv 8 71777214294589695 (rv 4 1085102592571150095 (rv 2 3689348814741910323 (rv 1 6148914691236517205 n)))))
theorem rev64_bit (n i : Nat) (hi : i < 64) : (rev64 n).testBit i = n.testBit (63 - i) := by
  obtain ⟨e, h1, h2, h3, h4, h5⟩ := xors i hi
  unfold rev64
  rw [rv_bit sw32 _ _ hi, rv_bit sw16 _ _ h1, rv_bit sw8 _ _ h2, rv_bit sw4 _ _ h3, rv_bit sw2 _ _ h4, rv_bit sw1 _ _ h5, e]
/-- Bit by bit: the i lowest bits, the lowest one highest. -/
def turned (n : Nat) : Nat → Nat
  | 0 => 0
  | i + 1 => 2 * turned n i + n / 2 ^ i % 2
theorem turned_bit (n i j : Nat) : (turned n i).testBit j = (decide (j < i) && n.testBit (i - 1 - j)) := by
  induction i generalizing j with
  | zero => simp [turned]
  | succ i ih =>
    have hb : n / 2 ^ i % 2 < 2 ^ 1 := Nat.mod_lt _ (by omega)
    have := Nat.testBit_two_pow_mul_add (turned n i) hb j
    simp only [turned]
    rw [show 2 * turned n i = 2 ^ 1 * turned n i from rfl, this]
    by_cases hj : j < 1
    · have hj0 : j = 0 := by omega
      subst hj0
      simp [Nat.testBit, Nat.shiftRight_eq_div_pow, Nat.one_and_eq_mod_two]
    · rw [if_neg hj, ih]
      have e : i - 1 - (j - 1) = i + 1 - 1 - j := by omega
      rw [e]
      congr 1
      simp; omega
theorem turned_lt (n i : Nat) : turned n i < 2 ^ i := by
  induction i with
  | zero => simp [turned]
  | succ i ih => simp only [turned]; have := Nat.mod_lt (n / 2 ^ i) (by omega : 0 < 2); rw [Nat.pow_succ]; omega
theorem rv_lt {k m n : Nat} (hm : m * 2 ^ k < 2 ^ 64) (hm' : m < 2 ^ 64) : rv k m n < 2 ^ 64 := by
  unfold rv
  refine Nat.or_lt_two_pow (Nat.and_lt_two_pow _ hm') ?_
  have : n &&& m ≤ m := Nat.and_le_right
  exact Nat.lt_of_le_of_lt (Nat.mul_le_mul_right _ this) hm
theorem rev_turned (n : Nat) : rev64 n = turned n 64 := by
  apply Nat.eq_of_testBit_eq
  intro i
  rw [turned_bit]
  by_cases hi : i < 64
  · rw [rev64_bit _ _ hi]; simp [hi]
  · have h1 : rev64 n < 2 ^ 64 := rv_lt (by decide) (by decide)
    have h2 : rev64 n < 2 ^ i := Nat.lt_of_lt_of_le h1 (Nat.pow_le_pow_right (by omega) (by omega))
    rw [Nat.testBit_lt_two_pow h2]; simp [hi]
/-- What the bit-by-bit sum has gathered behind i rounds. -/
theorem turned_step (n i : Nat) (hi : i < 64) : 2 ^ (64 - i) * turned n i + n / 2 ^ i % 2 * 2 ^ (63 - i) = 2 ^ (64 - (i + 1)) * turned n (i + 1) := by
  simp only [turned]
  rw [show 64 - i = (63 - i) + 1 from by omega, show 64 - (i + 1) = 63 - i from by omega, Nat.pow_succ, Nat.mul_add, Nat.mul_comm (n / 2 ^ i % 2)]
  rw [Nat.mul_assoc]

/-! ### '&', '|', '^' at int, both sides not below 0 -/
theorem ofInt_i64 (a : Nat) (ha : a < 9223372036854775808) : (BitVec.ofInt 64 (a : Int)).toNat = a := by
  rw [BitVec.ofInt_natCast, BitVec.toNat_ofNat]; exact Nat.mod_eq_of_lt (by omega)
theorem i64_and_nat (a b : Nat) (ha : a < 9223372036854775808) (hb : b < 9223372036854775808) : bits .and .i64 (a : Int) (b : Int) = ((a &&& b : Nat) : Int) := by
  have hx : a &&& b < 2 ^ 63 := Nat.and_lt_two_pow _ (by omega)
  show IntKind.i64.wrap ((BitVec.ofInt 64 (a : Int) &&& BitVec.ofInt 64 (b : Int)).toNat : Int) = _
  rw [BitVec.toNat_and, ofInt_i64 a ha, ofInt_i64 b hb, IntKind.wrap_i64]
  omega
theorem i64_or_nat (a b : Nat) (ha : a < 9223372036854775808) (hb : b < 9223372036854775808) : bits .or .i64 (a : Int) (b : Int) = ((a ||| b : Nat) : Int) := by
  have hx : a ||| b < 2 ^ 63 := Nat.or_lt_two_pow (by omega) (by omega)
  show IntKind.i64.wrap ((BitVec.ofInt 64 (a : Int) ||| BitVec.ofInt 64 (b : Int)).toNat : Int) = _
  rw [BitVec.toNat_or, ofInt_i64 a ha, ofInt_i64 b hb, IntKind.wrap_i64]
  omega
theorem and_u64 (x : Int) (a m : Nat) (hx : x = (a : Nat)) (ha : a < 18446744073709551616) (hm : m < 18446744073709551616) : bits .and .u64 x (m : Int) = ((a &&& m : Nat) : Int) := by subst hx; exact u64_and_nat a m ha hm
theorem or_u64 (x y : Int) (a m : Nat) (hx : x = (a : Nat)) (hy : y = (m : Nat)) (ha : a < 18446744073709551616) (hm : m < 18446744073709551616) : bits .or .u64 x y = ((a ||| m : Nat) : Int) := by subst hx hy; exact u64_or_nat a m ha hm
theorem and_i64 (x : Int) (a m : Nat) (hx : x = (a : Nat)) (ha : a < 9223372036854775808) (hm : m < 9223372036854775808) : bits .and .i64 x (m : Int) = ((a &&& m : Nat) : Int) := by subst hx; exact i64_and_nat a m ha hm
/-- Bit i of a word. -/
theorem bit_u64 (n i : Nat) (hn : n < 18446744073709551616) : bits .and .u64 ((n : Int) / 2 ^ i) 1 = ((n / 2 ^ i % 2 : Nat) : Int) := by
  have h : n / 2 ^ i ≤ n := Nat.div_le_self _ _
  have := and_u64 ((n : Int) / 2 ^ i) (n / 2 ^ i) 1 (by simp) (by omega) (by decide)
  rw [Nat.and_one_is_mod] at this
  exact this
theorem bit_test (n i : Nat) : (((n / 2 ^ i % 2 : Nat) : Int) == 1) = n.testBit i := by
  simp only [Nat.testBit, Nat.shiftRight_eq_div_pow, Nat.one_and_eq_mod_two]
  rcases Nat.mod_two_eq_zero_or_one (n / 2 ^ i) with h | h <;> rw [h] <;> rfl
theorem wrap_u64 (x : Int) : IntKind.u64.wrap x = x % 18446744073709551616 := by simp [IntKind.wrap, IntKind.bits, IntKind.signed]
/-- The mask of the i lowest bits, as Go makes it: 1<<i - 1. -/
theorem mask_u64 (i : Nat) (hi : i ≤ 64) : IntKind.u64.wrap (IntKind.u64.wrap (2 ^ i) - 1) = ((2 ^ i - 1 : Nat) : Int) := by
  rw [wrap_u64, wrap_u64]
  have h1 : 1 ≤ 2 ^ i := Nat.one_le_two_pow
  have e : ((2 : Int) ^ i) = ((2 ^ i : Nat) : Int) := by simp
  rcases Nat.lt_or_ge i 64 with h | h
  · have h2 : 2 ^ i < 2 ^ 64 := Nat.pow_lt_pow_right (by omega) h
    rw [e]; omega
  · obtain rfl : i = 64 := by omega
    decide
theorem mask_and (n i : Nat) (hn : n < 18446744073709551616) (hi : i ≤ 64) : bits .and .u64 (n : Int) (IntKind.u64.wrap (IntKind.u64.wrap (2 ^ i) - 1)) = ((n % 2 ^ i : Nat) : Int) := by
  rw [mask_u64 i hi]
  have h2 : 2 ^ i ≤ 2 ^ 64 := Nat.pow_le_pow_right (by omega) hi
  have := and_u64 (n : Int) n (2 ^ i - 1) rfl hn (by omega)
  rwa [Nat.and_two_pow_sub_one_eq_mod] at this
theorem cnt_low (n i : Nat) (hi : i ≤ 64) : cnt (n % 2 ^ i) 64 = cnt n i := by
  rw [show (64 : Nat) = i + (64 - i) from by omega, cnt_add, cnt_mod n (Nat.le_refl i), Nat.div_eq_of_lt (Nat.mod_lt _ (Nat.two_pow_pos i)), cnt_zero, Nat.add_zero]
theorem mod_of_test (n i : Nat) : n / 2 ^ i % 2 = if n.testBit i then 1 else 0 := by
  simp only [Nat.testBit, Nat.shiftRight_eq_div_pow, Nat.one_and_eq_mod_two]
  rcases Nat.mod_two_eq_zero_or_one (n / 2 ^ i) with h | h <;> rw [h] <;> rfl
theorem cnt_0 (n : Nat) : cnt n 0 = 0 := rfl
theorem cnt_succ (n i : Nat) : cnt n (i + 1) = cnt n i + n / 2 ^ i % 2 := rfl
theorem turned_le (n i : Nat) (hi : i ≤ 64) : 2 ^ (64 - i) * turned n i < 18446744073709551616 := by
  have h := turned_lt n i
  have h1 : 2 ^ (64 - i) * turned n i < 2 ^ (64 - i) * 2 ^ i := Nat.mul_lt_mul_of_pos_left h (Nat.two_pow_pos _)
  rw [← Nat.pow_add, show 64 - i + i = 64 from by omega] at h1
  exact h1
theorem turned_0 (n : Nat) : turned n 0 = 0 := rfl
theorem pow_u64 (i : Nat) (hi : i < 64) : IntKind.u64.wrap (2 ^ i) = ((2 ^ i : Nat) : Int) := by
  have h2 : 2 ^ i < 2 ^ 64 := Nat.pow_lt_pow_right (by omega) hi
  have e : ((2 : Int) ^ i) = ((2 ^ i : Nat) : Int) := by simp
  rw [wrap_u64, e]
  generalize (2 ^ i : Nat) = q at *
  omega
theorem rv_facts (k m n : Nat) (K M : Int) (hK : K = 2 ^ k) (hM : M = (m : Nat)) (hn : n < 18446744073709551616) (hm : m < 18446744073709551616) (hmk : m * 2 ^ k < 18446744073709551616) :
    ∃ a b : Nat, (a : Int) ≤ M ∧ (b : Int) * K ≤ M * K ∧ (b : Int) ≤ M ∧ bits .and .u64 ((n : Int) / K) M = (a : Int) ∧ bits .and .u64 (n : Int) M = (b : Int) ∧ bits .or .u64 (a : Int) ((b : Int) * K) = ((rv k m n : Nat) : Int) ∧ rv k m n < 18446744073709551616 := by
  subst hK hM
  have hd : n / 2 ^ k ≤ n := Nat.div_le_self _ _
  have hb : n &&& m ≤ m := Nat.and_le_right
  have hbk : (n &&& m) * 2 ^ k ≤ m * 2 ^ k := Nat.mul_le_mul_right _ hb
  have ha : n / 2 ^ k &&& m ≤ m := Nat.and_le_right
  have hbk' : (((n &&& m : Nat) : Int)) * 2 ^ k ≤ (m : Int) * 2 ^ k := by
    have : (((n &&& m) * 2 ^ k : Nat) : Int) ≤ ((m * 2 ^ k : Nat) : Int) := by omega
    simpa using this
  refine ⟨n / 2 ^ k &&& m, n &&& m, by omega, hbk', by omega, and_u64 _ (n / 2 ^ k) m (by simp) (by omega) hm, and_u64 _ n m rfl hn hm, ?_, rv_lt (by omega) (by omega)⟩
  unfold rv
  exact or_u64 _ _ _ _ rfl (by simp) (by omega) (by omega)
theorem rv_last (n2 : Nat) (h2 : n2 < 18446744073709551616) : bits .or .u64 ((n2 : Int) / 4294967296) (IntKind.u64.wrap ((n2 : Int) * 4294967296)) = ((rv 32 4294967295 n2 : Nat) : Int) := by
  rw [wrap_u64]
  have e : ((n2 : Int) * 4294967296) % 18446744073709551616 = ((n2 &&& 4294967295 : Nat) : Int) * 4294967296 := by
    rw [show (4294967295 : Nat) = 2 ^ 32 - 1 from rfl, Nat.and_two_pow_sub_one_eq_mod]; omega
  rw [e]
  unfold rv
  have e4 : n2 / 2 ^ 32 &&& 4294967295 = n2 / 2 ^ 32 := by
    rw [show (4294967295 : Nat) = 2 ^ 32 - 1 from rfl, Nat.and_two_pow_sub_one_eq_mod]; omega
  rw [e4]
  have hb : n2 &&& 4294967295 ≤ 4294967295 := Nat.and_le_right
  exact or_u64 _ _ _ _ (by omega) (by omega) (by omega) (by omega)
theorem rev64_eq (n : Nat) : rev64 n = rv 32 4294967295 (rv 16 281470681808895 (rv 8 71777214294589695 (rv 4 1085102592571150095 (rv 2 3689348814741910323 (rv 1 6148914691236517205 n))))) := rfl
attribute [irreducible] cnt turned rev64 rv
end Go.Dam

/-
  The plain law of expressions: their faults and their texts, by depth. Conditions: none; nothing here names the program.
-/
namespace Go.Dam.Q
open Go
/-- An expression. -/
inductive Ex where
  | mk (k x0 y0 x1 y1 w : Int) (ps : List Ex)
instance : Inhabited Ex := ⟨.mk 0 0 0 0 0 0 []⟩
def Ex.k : Ex → Int | .mk k _ _ _ _ _ _ => k
def Ex.x0 : Ex → Int | .mk _ a _ _ _ _ _ => a
def Ex.y0 : Ex → Int | .mk _ _ a _ _ _ _ => a
def Ex.x1 : Ex → Int | .mk _ _ _ a _ _ _ => a
def Ex.y1 : Ex → Int | .mk _ _ _ _ a _ _ => a
def Ex.w : Ex → Int | .mk _ _ _ _ _ a _ => a
def Ex.ps : Ex → List Ex | .mk _ _ _ _ _ _ a => a
def noEx : Ex := .mk 0 0 0 0 0 0 []
/-- Within the coordinates. -/
def nearQ (n : Int) : Bool := decide (-1048576 ≤ n) && decide (n ≤ 1048576)
/-- Not of the form. -/
def formBad (k x0 y0 x1 y1 w : Int) (n : Nat) : Bool :=
  (decide (k ≤ 2) && decide (0 < n)) || ((k == 3 || k == 4) && decide (n < 2)) || (k == 5 && !(n == 1)) || (!(k == 1) && !(x0 == 0 && y0 == 0 && x1 == 0 && y1 == 0)) || (!(k == 2) && !(w == 0))
/-- What is wrong with an expression's own numbers. -/
def headCode (k x0 y0 x1 y1 w : Int) (n : Nat) : Int :=
  if k < 1 ∨ 5 < k then 3 else if formBad k x0 y0 x1 y1 w n = true then 4 else if (nearQ x0 && nearQ y0 && nearQ x1 && nearQ y1 && nearQ w) = true then 0 else 2
/-- The first code that is not 0. -/
def firstC : List Int → Int
  | [] => 0
  | c :: cs => if c = 0 then firstC cs else c
theorem firstC_none {l : List Int} (h : ∀ c ∈ l, c = 0) : firstC l = 0 := by
  induction l with
  | nil => rfl
  | cons c cs ih => rw [firstC, if_pos (h c (by simp)), ih fun x hx => h x (by simp [hx])]
theorem firstC_zero {l : List Int} (h : firstC l = 0) : ∀ c ∈ l, c = 0 := by
  induction l with
  | nil => intro c hc; cases hc
  | cons c cs ih =>
    rw [firstC] at h
    by_cases h0 : c = 0
    · rw [if_pos h0] at h
      intro x hx
      rcases List.mem_cons.1 hx with rfl | hx
      · exact h0
      · exact ih h x hx
    · rw [if_neg h0] at h; exact absurd h h0
theorem firstC_at {l : List Int} : ∀ {i : Nat}, i < l.length → (∀ j, j < i → l.getD j 0 = 0) → l.getD i 0 ≠ 0 → firstC l = l.getD i 0 := by
  induction l with
  | nil => intro i hi; simp at hi
  | cons c cs ih =>
    intro i hi h0 hne
    cases i with
    | zero => rw [firstC, if_neg (by simpa using hne)]; simp
    | succ i =>
      rw [firstC, if_pos (by simpa using h0 0 (by omega))]
      simpa using ih (i := i) (by simpa using hi) (fun j hj => by simpa using h0 (j + 1) (by omega)) (by simpa using hne)
/-- The fault of an expression, so many levels allowed. -/
def faultN : Nat → Ex → Int
  | 0, _ => 11
  | f + 1, .mk k x0 y0 x1 y1 w ps => if headCode k x0 y0 x1 y1 w ps.length = 0 then firstC (ps.map (faultN f)) else headCode k x0 y0 x1 y1 w ps.length
theorem faultN_0 (x : Ex) : faultN 0 x = 11 := by rw [faultN]
theorem faultN_head {f : Nat} {k x0 y0 x1 y1 w : Int} {ps : List Ex} (h : headCode k x0 y0 x1 y1 w ps.length ≠ 0) : faultN (f + 1) (.mk k x0 y0 x1 y1 w ps) = headCode k x0 y0 x1 y1 w ps.length := by rw [faultN, if_neg h]
theorem faultN_parts {f : Nat} {k x0 y0 x1 y1 w : Int} {ps : List Ex} (h : headCode k x0 y0 x1 y1 w ps.length = 0) : faultN (f + 1) (.mk k x0 y0 x1 y1 w ps) = firstC (ps.map (faultN f)) := by rw [faultN, if_pos h]
theorem faultN_part {f : Nat} {k x0 y0 x1 y1 w : Int} {ps : List Ex} (h : headCode k x0 y0 x1 y1 w ps.length = 0) {i : Nat} (hi : i < ps.length) (h0 : ∀ j, j < i → faultN f (ps.getD j noEx) = 0) (h1 : faultN f (ps.getD i noEx) ≠ 0) : faultN (f + 1) (.mk k x0 y0 x1 y1 w ps) = faultN f (ps.getD i noEx) := by
  have e : ∀ j, j < ps.length → (ps.map (faultN f)).getD j 0 = faultN f (ps.getD j noEx) := fun j hj => by
    rw [List.getD_eq_getElem?_getD, List.getD_eq_getElem?_getD, List.getElem?_map, List.getElem?_eq_getElem hj]; rfl
  rw [faultN_parts h, firstC_at (i := i) (by simpa using hi) (fun j hj => by rw [e j (by omega)]; exact h0 j hj) (by rw [e i hi]; exact h1), e i hi]
theorem faultN_fine {f : Nat} {k x0 y0 x1 y1 w : Int} {ps : List Ex} (h : headCode k x0 y0 x1 y1 w ps.length = 0) (h0 : ∀ j, j < ps.length → faultN f (ps.getD j noEx) = 0) : faultN (f + 1) (.mk k x0 y0 x1 y1 w ps) = 0 := by
  rw [faultN_parts h]
  refine firstC_none fun c hc => ?_
  obtain ⟨p, hp, rfl⟩ := List.mem_map.1 hc
  obtain ⟨j, hj, rfl⟩ := List.mem_iff_getElem.1 hp
  have := h0 j hj
  rwa [List.getD_eq_getElem?_getD, List.getElem?_eq_getElem hj] at this
theorem fine_head {f : Nat} {k x0 y0 x1 y1 w : Int} {ps : List Ex} (h : faultN (f + 1) (.mk k x0 y0 x1 y1 w ps) = 0) : headCode k x0 y0 x1 y1 w ps.length = 0 := by
  by_cases h0 : headCode k x0 y0 x1 y1 w ps.length = 0
  · exact h0
  · rw [faultN_head h0] at h; exact h
theorem fine_part {f : Nat} {k x0 y0 x1 y1 w : Int} {ps : List Ex} (h : faultN (f + 1) (.mk k x0 y0 x1 y1 w ps) = 0) {i : Nat} (hi : i < ps.length) : faultN f (ps.getD i noEx) = 0 := by
  rw [faultN_parts (fine_head h)] at h
  refine firstC_zero h _ (List.mem_map.2 ⟨ps[i], List.getElem_mem hi, ?_⟩)
  rw [List.getD_eq_getElem?_getD, List.getElem?_eq_getElem hi]; rfl
/-- What a fine expression's own numbers are. -/
structure HeadOk (k x0 y0 x1 y1 w : Int) (n : Nat) : Prop where
  k1 : 1 ≤ k
  k5 : k ≤ 5
  none : k ≤ 2 → n = 0
  two : k = 3 ∨ k = 4 → 2 ≤ n
  one : k = 5 → n = 1
  rect : k ≠ 1 → x0 = 0 ∧ y0 = 0 ∧ x1 = 0 ∧ y1 = 0
  wz : k ≠ 2 → w = 0
  c0 : -1048576 ≤ x0 ∧ x0 ≤ 1048576
  c1 : -1048576 ≤ y0 ∧ y0 ≤ 1048576
  c2 : -1048576 ≤ x1 ∧ x1 ≤ 1048576
  c3 : -1048576 ≤ y1 ∧ y1 ≤ 1048576
  c4 : -1048576 ≤ w ∧ w ≤ 1048576
theorem headOk {k x0 y0 x1 y1 w : Int} {n : Nat} (h : headCode k x0 y0 x1 y1 w n = 0) : HeadOk k x0 y0 x1 y1 w n := by
  unfold headCode at h
  by_cases h1 : k < 1 ∨ 5 < k
  · rw [if_pos h1] at h; omega
  rw [if_neg h1] at h
  by_cases h2 : formBad k x0 y0 x1 y1 w n = true
  · rw [if_pos h2] at h; omega
  rw [if_neg h2] at h
  have h3 : (nearQ x0 && nearQ y0 && nearQ x1 && nearQ y1 && nearQ w) = true := by
    cases hb : (nearQ x0 && nearQ y0 && nearQ x1 && nearQ y1 && nearQ w)
    · rw [hb] at h; simp at h
    · rfl
  unfold formBad at h2
  unfold nearQ at h3
  simp only [Bool.or_eq_true, Bool.and_eq_true, decide_eq_true_eq, beq_iff_eq, Bool.not_eq_true', beq_eq_false_iff_ne] at h2 h3
  constructor <;> first | omega | skip
  · intro hk
    have h4 : ¬ (¬ k = 1 ∧ (x0 == 0 && y0 == 0 && x1 == 0 && y1 == 0) = false) := fun hh => h2 (.inl (.inr hh))
    have h5 : (x0 == 0 && y0 == 0 && x1 == 0 && y1 == 0) = true := by
      cases hb : (x0 == 0 && y0 == 0 && x1 == 0 && y1 == 0)
      · exact absurd ⟨hk, hb⟩ h4
      · rfl
    simp only [Bool.and_eq_true, beq_iff_eq] at h5
    omega
/-- Brackets around a part? -/
def wrapped (k pk : Int) : Bool := pk == 4 || (pk == 3 && !(k == 4))
def wrapT (b : Bool) (s : List UInt8) : List UInt8 := if b then 40 :: (s ++ [41]) else s
/-- Texts with something between. -/
def joinT (sep : List UInt8) : List (List UInt8) → List UInt8
  | [] => []
  | [s] => s
  | s :: t :: l => s ++ sep ++ joinT sep (t :: l)
/-- The text of a part within a kind. -/
def partT (k : Int) (p : Ex) (s : List UInt8) : List UInt8 := wrapT (wrapped k p.k) s
def sepOf (k : Int) : List UInt8 := if k = 3 then [32, 38, 32] else [32, 124, 32]
/-- The text of an expression. -/
def textN : Nat → Ex → List UInt8
  | 0, _ => []
  | f + 1, .mk k x0 y0 x1 y1 w ps =>
    if k = 1 then [105, 110] ++ 32 :: Lib.itoa x0 ++ 32 :: Lib.itoa y0 ++ 32 :: Lib.itoa x1 ++ 32 :: Lib.itoa y1
    else if k = 2 then 119 :: 32 :: Lib.itoa w
    else if k = 5 then 33 :: (ps.map fun p => partT k p (textN f p)).getD 0 []
    else joinT (sepOf k) (ps.map fun p => partT k p (textN f p))
/-- How many expressions, each as often as it is met. -/
def sizeN : Nat → Ex → Nat
  | 0, _ => 1
  | f + 1, .mk _ _ _ _ _ _ ps => 1 + (ps.map (sizeN f)).sum
theorem nDigits_le : ∀ (k u : Nat), u < 10 ^ (k + 1) → Lib.nDigits u ≤ k + 1
  | 0, u, h => by rw [Lib.nDigits_small (by simpa using h)]; omega
  | k + 1, u, h => by
    by_cases h1 : u < 10
    · rw [Lib.nDigits_small h1]; omega
    · rw [Lib.nDigits_big h1]
      have := nDigits_le k (u / 10) (by rw [Nat.pow_succ] at h; omega)
      omega
theorem itoa_len {n : Int} (h0 : -1048576 ≤ n) (h1 : n ≤ 1048576) : (Lib.itoa n).length ≤ 8 := by
  unfold Lib.itoa
  split
  · rw [List.length_cons, Lib.decDigits_length]
    have := nDigits_le 6 n.natAbs (by omega)
    omega
  · rw [Lib.decDigits_length]
    have := nDigits_le 6 n.toNat (by omega)
    omega
theorem join_len (sep : List UInt8) : ∀ l : List (List UInt8), (joinT sep l).length ≤ (l.map fun s => s.length + sep.length).sum
  | [] => by simp [joinT]
  | [s] => by simp [joinT]
  | s :: t :: l => by
    have := join_len sep (t :: l)
    simp only [joinT, List.length_append, List.map_cons, List.sum_cons] at *
    omega
theorem sum_le {α : Type} (f g : α → Nat) : ∀ {l : List α}, (∀ x ∈ l, f x ≤ g x) → (l.map f).sum ≤ (l.map g).sum
  | [], _ => by simp
  | x :: l, h => by
    have h1 := h x (by simp)
    have h2 := sum_le f g (l := l) fun y hy => h y (by simp [hy])
    simp only [List.map_cons, List.sum_cons]
    omega
theorem part_len (k : Int) (p : Ex) (s : List UInt8) : (partT k p s).length ≤ s.length + 2 := by
  unfold partT wrapT
  split
  · simp
  · omega
theorem sum_mul (c : Nat) {α : Type} (g : α → Nat) : ∀ l : List α, (l.map fun x => c * g x).sum = c * (l.map g).sum
  | [] => by simp
  | x :: l => by simp only [List.map_cons, List.sum_cons, sum_mul c g l, Nat.mul_add]
/-- A text is not long. -/
theorem text_len : ∀ (f : Nat) (x : Ex), faultN f x = 0 → (textN f x).length + 5 ≤ 48 * sizeN f x
  | 0, x, h => by rw [faultN_0] at h; omega
  | f + 1, .mk k x0 y0 x1 y1 w ps, h => by
    have ho := headOk (fine_head h)
    have ih : ∀ p ∈ ps, (partT k p (textN f p)).length + 3 ≤ 48 * sizeN f p := fun p hp => by
      obtain ⟨i, hi, rfl⟩ := List.mem_iff_getElem.1 hp
      have h1 := fine_part h hi
      rw [List.getD_eq_getElem?_getD, List.getElem?_eq_getElem hi] at h1
      have h2 := text_len f _ h1
      have h3 := part_len k ps[i] (textN f ps[i])
      simp only [Option.getD_some] at h2
      omega
    have hs : ((ps.map fun p => partT k p (textN f p)).map fun s => s.length + 3).sum ≤ 48 * (ps.map (sizeN f)).sum := by
      rw [List.map_map, ← sum_mul]
      exact sum_le _ _ ih
    rw [textN, sizeN]
    have a0 := itoa_len ho.c0.1 ho.c0.2
    have a1 := itoa_len ho.c1.1 ho.c1.2
    have a2 := itoa_len ho.c2.1 ho.c2.2
    have a3 := itoa_len ho.c3.1 ho.c3.2
    have a4 := itoa_len ho.c4.1 ho.c4.2
    have hk1 := ho.k1
    have hk5 := ho.k5
    by_cases e1 : k = 1
    · rw [if_pos e1]; simp only [List.length_append, List.length_cons, List.length_nil]; omega
    rw [if_neg e1]
    by_cases e2 : k = 2
    · rw [if_pos e2]; simp only [List.length_cons]; omega
    rw [if_neg e2]
    by_cases e5 : k = 5
    · rw [if_pos e5]
      have hn := ho.one e5
      obtain ⟨p, rfl⟩ := List.length_eq_one_iff.1 hn
      have := ih p (by simp)
      simp only [List.map_cons, List.map_nil, List.sum_cons, List.sum_nil, List.getD_cons_zero, List.length_cons]
      omega
    · rw [if_neg e5]
      have hl : (sepOf k).length = 3 := by unfold sepOf; split <;> rfl
      have h6 := join_len (sepOf k) (ps.map fun p => partT k p (textN f p))
      rw [hl] at h6
      have h7 := ho.two (by omega)
      have h8 : 48 * (1 + (ps.map (sizeN f)).sum) = 48 + 48 * (ps.map (sizeN f)).sum := by omega
      omega
theorem textN_in {f : Nat} {x0 y0 x1 y1 w : Int} {ps : List Ex} : textN (f + 1) (.mk 1 x0 y0 x1 y1 w ps) = [105, 110] ++ 32 :: Lib.itoa x0 ++ 32 :: Lib.itoa y0 ++ 32 :: Lib.itoa x1 ++ 32 :: Lib.itoa y1 := by rw [textN, if_pos rfl]
theorem textN_heavy {f : Nat} {x0 y0 x1 y1 w : Int} {ps : List Ex} : textN (f + 1) (.mk 2 x0 y0 x1 y1 w ps) = 119 :: 32 :: Lib.itoa w := by rw [textN, if_neg (by decide), if_pos rfl]
theorem textN_not {f : Nat} {x0 y0 x1 y1 w : Int} {p : Ex} : textN (f + 1) (.mk 5 x0 y0 x1 y1 w [p]) = 33 :: partT 5 p (textN f p) := by rw [textN, if_neg (by decide), if_neg (by decide), if_pos rfl]; rfl
theorem textN_not5 {f : Nat} {x0 y0 x1 y1 w : Int} {ps : List Ex} : textN (f + 1) (.mk 5 x0 y0 x1 y1 w ps) = 33 :: (ps.map fun p => partT 5 p (textN f p)).getD 0 [] := by rw [textN, if_neg (by decide), if_neg (by decide), if_pos rfl]
theorem textN_list {f : Nat} {k x0 y0 x1 y1 w : Int} {ps : List Ex} (h : k = 3 ∨ k = 4) : textN (f + 1) (.mk k x0 y0 x1 y1 w ps) = joinT (sepOf k) (ps.map fun p => partT k p (textN f p)) := by
  rw [textN, if_neg (by omega), if_neg (by omega), if_neg (by omega)]
theorem joinT_snoc (sep s : List UInt8) : ∀ {l : List (List UInt8)}, l ≠ [] → joinT sep (l ++ [s]) = joinT sep l ++ sep ++ s
  | [], h => absurd rfl h
  | [t], _ => by simp [joinT]
  | t :: u :: l, _ => by
    have := joinT_snoc sep s (l := u :: l) (by simp)
    simp only [List.cons_append] at this ⊢
    simp only [joinT, this, List.append_assoc]
/-- Not of the form, in words. -/
def FormBadP (k x0 y0 x1 y1 w : Int) (n : Nat) : Prop := (k ≤ 2 ∧ 0 < n) ∨ ((k = 3 ∨ k = 4) ∧ n < 2) ∨ (k = 5 ∧ n ≠ 1) ∨ (k ≠ 1 ∧ (x0 ≠ 0 ∨ y0 ≠ 0 ∨ x1 ≠ 0 ∨ y1 ≠ 0)) ∨ (k ≠ 2 ∧ w ≠ 0)
theorem formBad_iff {k x0 y0 x1 y1 w : Int} {n : Nat} : formBad k x0 y0 x1 y1 w n = true ↔ FormBadP k x0 y0 x1 y1 w n := by
  unfold formBad FormBadP
  simp only [Bool.or_eq_true, Bool.and_eq_true, decide_eq_true_eq, beq_iff_eq, Bool.not_eq_true', beq_eq_false_iff_ne, Bool.and_eq_false_iff]
  constructor
  · rintro ((((h | h) | h) | ⟨h1, h2⟩) | h)
    · exact .inl h
    · exact .inr (.inl h)
    · exact .inr (.inr (.inl h))
    · refine .inr (.inr (.inr (.inl ⟨h1, ?_⟩))); rcases h2 with ((h2 | h2) | h2) | h2 <;> omega
    · exact .inr (.inr (.inr (.inr h)))
  · rintro (h | h | h | ⟨h1, h2⟩ | h)
    · exact .inl (.inl (.inl (.inl h)))
    · exact .inl (.inl (.inl (.inr h)))
    · exact .inl (.inl (.inr h))
    · refine .inl (.inr ⟨h1, ?_⟩); rcases h2 with h2 | h2 | h2 | h2
      · exact .inl (.inl (.inl h2))
      · exact .inl (.inl (.inr h2))
      · exact .inl (.inr h2)
      · exact .inr h2
    · exact .inr h
theorem head3 {k x0 y0 x1 y1 w : Int} {n : Nat} (h : k < 1 ∨ 5 < k) : headCode k x0 y0 x1 y1 w n = 3 := by unfold headCode; rw [if_pos h]
theorem head4 {k x0 y0 x1 y1 w : Int} {n : Nat} (h : ¬ (k < 1 ∨ 5 < k)) (h2 : FormBadP k x0 y0 x1 y1 w n) : headCode k x0 y0 x1 y1 w n = 4 := by unfold headCode; rw [if_neg h, if_pos (formBad_iff.2 h2)]
theorem head2 {k x0 y0 x1 y1 w : Int} {n : Nat} (h : ¬ (k < 1 ∨ 5 < k)) (h2 : ¬ FormBadP k x0 y0 x1 y1 w n) (h3 : (nearQ x0 && nearQ y0 && nearQ x1 && nearQ y1 && nearQ w) = false) : headCode k x0 y0 x1 y1 w n = 2 := by unfold headCode; rw [if_neg h, if_neg (fun h => h2 (formBad_iff.1 h)), h3]; rfl
theorem head0 {k x0 y0 x1 y1 w : Int} {n : Nat} (h : ¬ (k < 1 ∨ 5 < k)) (h2 : ¬ FormBadP k x0 y0 x1 y1 w n) (h3 : (nearQ x0 && nearQ y0 && nearQ x1 && nearQ y1 && nearQ w) = true) : headCode k x0 y0 x1 y1 w n = 0 := by unfold headCode; rw [if_neg h, if_neg (fun h => h2 (formBad_iff.1 h)), h3]; rfl
attribute [irreducible] faultN textN sizeN firstC joinT headCode formBad
end Go.Dam.Q

/-
  How a slice of structs of m ints lies in memory: one flat list of ints, m for each element; and how the argument is opened to it. Conditions: none; nothing here names the program.
-/
namespace Go.Dam
open Go Go.RowKit Go.ChangeShapes Go.WideShapes Go.Joins Go.Deep
set_option linter.unusedVariables false
/-- The slice value reads as n elements of m ints each; l is all of them, one behind the other. -/
def IsFlat (m : Nat) (w : World) (B : Nat) (v : Value) (n : Nat) (l : List Int) : Prop :=
  ∃ A c, v = .slice A n c ∧ n ≤ c ∧ c ≤ maxLen ∧ n ≤ 140737488351232 ∧ l.length = n * m ∧ Reads w B m A n (l.map (Value.int .i64)) ∧ ∀ z ∈ l, (Lit.int .i64 z).wf = true
section
variable {m n : Nat} {w w' : World} {B B' : Nat} {v : Value} {l : List Int} {A : Option Addr}
theorem IsFlat.below (h : IsFlat m w B v n l) (hb : Below B w w') : IsFlat m w' B v n l := by
  obtain ⟨A, c, rfl, h1, h2, h5, h6, h3, h4⟩ := h
  exact ⟨A, c, rfl, h1, h2, h5, h6, h3.below hb, h4⟩
theorem IsFlat.more (h : IsFlat m w B v n l) (hB : B ≤ B') : IsFlat m w B' v n l := by
  obtain ⟨A, c, rfl, h1, h2, h5, h6, h3, h4⟩ := h
  exact ⟨A, c, rfl, h1, h2, h5, h6, h3.more hB, h4⟩
theorem flat_cells (hr : Reads w B m A n (l.map (Value.int .i64))) (hl : l.length = n * m) (hn : 0 < n) (hm : 0 < m) :
    ∃ b off, A = some ⟨b, off, none⟩ ∧ b < B ∧ ∀ j, j < n * m → w.cell? ⟨b, off + j, none⟩ = some (.int .i64 (l.getD j 0)) := by
  obtain ⟨ad, e, hb, hc⟩ := hr.2 hn
  obtain ⟨b, off, sp⟩ := ad
  have key : ∀ j, j < n * m → w.cell? ((⟨b, off, sp⟩ : Addr).add j) = some (.int .i64 (l.getD j 0)) := by
    intro j hj
    refine hc j _ ?_
    have : j < l.length := by omega
    simp [this]
  have h0 := key 0 (Nat.mul_pos hn hm)
  have hsp : sp = none := by simpa [Addr.add] using cell_spot h0
  subst hsp
  refine ⟨b, off, e, hb, fun j hj => ?_⟩
  have hu := key j hj
  unfold Addr.add at hu
  split at hu
  · rename_i h0; subst h0; exact hu
  · exact hu
theorem flat_wf (hw : ∀ z ∈ l, (Lit.int .i64 z).wf = true) (j : Nat) : I64 (l.getD j 0) := by
  rcases Nat.lt_or_ge j l.length with h | h
  · have : l.getD j 0 = l[j] := by simp [h]
    rw [this]
    exact wf_i64 (hw _ (List.getElem_mem h))
  · have : l.getD j 0 = 0 := by simp [h]
    rw [this]; unfold I64; omega
end
section
variable {H : Type} {enc : TypeId × Value → H} {P : Program} {w : World} {base : Nat} {spare : Nat → Bool} {held : Bool}
/-- Whatever slice of structs of m ints can be read as data. -/
theorem open_flat {t e : TypeId} {fs : Array Field} {m fuel : Nat} {cs : List Value} {x : DataW H × List MemPlace} (ht : P.underlying t = some (.slice e)) (he : P.underlying e = some (.struct fs)) (hone : oneCellFields P fs = true)
    (hC : P.cellsOf e = m) (hm : fs.size = m) (hm0 : 0 < m) (hfs : ∀ f ∈ fs.toList, P.underlying f.type = some (.int .i64)) (h : DataW.trod enc P w base spare held fuel t cs = some x) (hz : Sized P t x.1) :
    ∃ A n c, ∃ l : List Int, cs = [.slice A n c] ∧ n ≤ c ∧ c ≤ maxLen ∧ n * P.bytesOf e ≤ reachBytes ∧ l.length = n * m ∧ Reads w w.heap.size m A n (l.map (Value.int .i64)) ∧ ∀ z ∈ l, (Lit.int .i64 z).wf = true := by
  obtain ⟨A, n, c, vs, rfl, hc, hcm, hby, hr, hi⟩ := open_reads ht hC hm0 h hz
  have hl : vs.length = n * m := hr.1
  have key : ∀ j, j < n * m → ∃ z, vs[j]? = some (.int .i64 z) ∧ (Lit.int .i64 z).wf = true := by
    intro j hj
    have hq : j / m < n := by rw [Nat.div_lt_iff_lt_mul hm0]; exact hj
    have hrm : j % m < m := Nat.mod_lt _ hm0
    obtain ⟨f, y, hy, _⟩ := hi (j / m) hq
    obtain ⟨ys, n', _, _, hlen, hyl, hf⟩ := DataW.trod_struct he hy
    have hfj : fs[j % m]? = some (fs[j % m]'(by omega)) := Array.getElem?_eq_getElem (by omega)
    obtain ⟨ho, hk⟩ := hone_of hone (j % m) _ hfj
    have h1 := hf (j % m) _ hfj
    rw [ho, hk] at h1
    have hys : ys[j % m]? = some (ys[j % m]'(by omega)) := List.getElem?_eq_getElem (by omega)
    rw [hys] at h1
    obtain ⟨z, hz1, _, hw1⟩ := DataW.trod_int (hfs _ (by simp)) h1
    refine ⟨z, ?_, hw1⟩
    have h2 : ((((vs.drop (j / m * m)).take m).drop (j % m)).take 1)[0]? = some (.int .i64 z) := by rw [hz1]; rfl
    rw [List.getElem?_take, if_pos (by omega), List.getElem?_drop, List.getElem?_take, if_pos (by omega), List.getElem?_drop] at h2
    rw [← h2]
    congr 1
    have := Nat.div_add_mod j m
    rw [Nat.mul_comm] at this
    omega
  refine ⟨A, n, c, vs.map intOf, rfl, hc, hcm, hby, by simpa using hl, ?_, ?_⟩
  · have : (vs.map intOf).map (Value.int .i64) = vs := by
      apply List.ext_getElem?
      intro j
      rcases Nat.lt_or_ge j (n * m) with hj | hj
      · obtain ⟨z, hz, _⟩ := key j hj
        simp [hz, intOf]
      · rw [List.getElem?_eq_none (by simp; omega), List.getElem?_eq_none (by omega)]
    rw [this]; exact hr
  · intro z hz
    obtain ⟨j, hj, rfl⟩ := List.mem_iff_getElem.1 hz
    have hj' : j < vs.length := by simpa using hj
    obtain ⟨z, hz, hw⟩ := key j (by omega)
    rw [List.getElem?_eq_getElem hj'] at hz
    have : vs[j] = .int .i64 z := by injection hz
    simpa [this, intOf] using hw
theorem arg_flat {r : Reach} {b0 : Nat} {t e : TypeId} {v : Value} {d : DataW H} {ps : List MemPlace} {fs : Array Field} {m : Nat} (ht : P.underlying t = some (.slice e)) (he : P.underlying e = some (.struct fs)) (hone : oneCellFields P fs = true)
    (hC : P.cellsOf e = m) (hm : fs.size = m) (hm0 : 0 < m) (hfs : ∀ f ∈ fs.toList, P.underlying f.type = some (.int .i64)) (hby : 1 ≤ P.bytesOf e)
    (hv : Value.okWide P w r b0 t v) (h : DataW.Trod enc P w base spare held t v d ps) (hz : Sized P t d) : ∃ n l, IsFlat m w w.heap.size v n l := by
  obtain ⟨a, len, cap, rfl⟩ := okWide_slice ht hv
  obtain ⟨fuel, hf⟩ := h
  obtain ⟨A, n, c, l, hcs, hc, hcm, hb, hl, hr, hw⟩ := open_flat ht he hone hC hm hm0 hfs hf hz
  simp only [Value.cells, List.cons.injEq, and_true] at hcs
  have : n * 1 ≤ n * P.bytesOf e := Nat.mul_le_mul_left _ hby
  have hr2 : reachBytes = 140737488351232 := rfl
  exact ⟨n, l, A, c, hcs, hc, hcm, by omega, hl, hr, hw⟩
end
/-- Elements of lists of ints by their first coordinates. -/
def coordOk (z : Int) : Bool := decide (-1048576 ≤ z ∧ z ≤ 1048576)
theorem coordOk_yes {z : Int} (h : coordOk z = true) : -1048576 ≤ z ∧ z ≤ 1048576 := by simpa [coordOk] using h
theorem coordOk_no {z : Int} (h : coordOk z = false) : z < -1048576 ∨ 1048576 < z := by
  rw [coordOk, decide_eq_false_iff_not] at h; omega
/-- Has a number below n the mark? -/
def anyN (p : Nat → Bool) (n : Nat) : Bool := (List.range n).any p
theorem anyN_yes {p : Nat → Bool} {n i : Nat} (hi : i < n) (h : p i = true) : anyN p n = true := by
  unfold anyN; rw [List.any_eq_true]; exact ⟨i, List.mem_range.2 hi, h⟩
theorem anyN_no {p : Nat → Bool} {n : Nat} (h : ∀ i, i < n → p i = false) : anyN p n = false := by
  unfold anyN; rw [List.any_eq_false]; intro i hi; rw [h i (List.mem_range.1 hi)]; simp
theorem anyN_false {p : Nat → Bool} {n : Nat} (h : anyN p n = false) : ∀ i, i < n → p i = false := by
  unfold anyN at h; rw [List.any_eq_false] at h
  intro i hi
  have := h i (List.mem_range.2 hi)
  simpa using this
theorem anyN_true {p : Nat → Bool} {n : Nat} (h : anyN p n = true) : ∃ i, i < n ∧ p i = true := by
  unfold anyN at h; rw [List.any_eq_true] at h
  obtain ⟨i, hi, hp⟩ := h
  exact ⟨i, List.mem_range.1 hi, hp⟩
attribute [irreducible] anyN coordOk
/-- The first number below n with the mark, or -1. -/
def FirstR (p : Nat → Bool) (n : Nat) (k : Int) : Prop := (k = -1 ∧ ∀ i, i < n → p i = false) ∨ ∃ i : Nat, i < n ∧ k = i ∧ p i = true ∧ ∀ j, j < i → p j = false
theorem FirstR.any {p : Nat → Bool} {n : Nat} {k : Int} (h : FirstR p n k) : decide (k ≥ 0) = anyN p n := by
  rcases h with ⟨rfl, h⟩ | ⟨i, hi, rfl, hp, _⟩
  · rw [anyN_no h]; rfl
  · rw [anyN_yes hi hp]; simp
theorem FirstR.bd {p : Nat → Bool} {n : Nat} {k : Int} (h : FirstR p n k) : -1 ≤ k ∧ k < n := by
  rcases h with ⟨rfl, h⟩ | ⟨i, hi, rfl, hp, _⟩ <;> omega
theorem FirstR.ex (p : Nat → Bool) : ∀ n, ∃ k, FirstR p n k
  | 0 => ⟨-1, .inl ⟨rfl, fun i hi => absurd hi (by omega)⟩⟩
  | n + 1 => by
    obtain ⟨k, hk⟩ := FirstR.ex p n
    rcases hk with ⟨rfl, h⟩ | ⟨i, hi, rfl, hp, hj⟩
    · cases hn : p n
      · exact ⟨-1, .inl ⟨rfl, fun i hi => by rcases Nat.lt_or_ge i n with h1 | h1; exact h i h1; rw [show i = n from by omega]; exact hn⟩⟩
      · exact ⟨n, .inr ⟨n, by omega, rfl, hn, h⟩⟩
    · exact ⟨i, .inr ⟨i, by omega, rfl, hp, hj⟩⟩
theorem FirstR.is {p : Nat → Bool} {n i : Nat} {k : Int} (h : FirstR p n k) (hi : i < n) (hp : p i = true) (hno : ∀ j, j < i → p j = false) : k = i := by
  rcases h with ⟨rfl, h⟩ | ⟨i', hi', rfl, hp', hno'⟩
  · rw [h i hi] at hp; cases hp
  · rcases Nat.lt_trichotomy i i' with h | h | h
    · rw [hno' i h] at hp; cases hp
    · rw [h]
    · rw [hno i' h] at hp'; cases hp'
theorem FirstR.none_ {p : Nat → Bool} {n : Nat} {k : Int} (h : FirstR p n k) (hno : ∀ j, j < n → p j = false) : k = -1 := by
  rcases h with ⟨rfl, h⟩ | ⟨i', hi', rfl, hp', hno'⟩
  · rfl
  · rw [hno i' hi'] at hp'; cases hp'
theorem no_step {p : Nat → Bool} {i : Nat} (h : ∀ j, j < i → p j = false) (hi : p i = false) : ∀ j, j < i + 1 → p j = false := by
  intro j hj
  rcases Nat.lt_or_ge j i with h1 | h1
  · exact h j h1
  · rw [show j = i from by omega]; exact hi
theorem not3_cases {x y z b : Bool} (h : (!(x && (y && z))) = b) : (b = true ∧ x = false) ∨ (b = true ∧ x = true ∧ y = false) ∨ (b = true ∧ x = true ∧ y = true ∧ z = false) ∨ (b = false ∧ x = true ∧ y = true ∧ z = true) := by
  subst h; cases x <;> cases y <;> cases z <;> simp
end Go.Dam

/-
  append onto a row of the call's own, with the word where the row lies afterwards: where it lay, or in a new block; of any number of cells. Conditions: none; nothing here names the program.
-/
namespace Go.Dam
open Go Go.RowKit Go.ChangeShapes Go.WideShapes Go.Joins Go.Deep
set_option linter.unusedVariables false
section
variable {P : Program} {w : World}
/-- The row v' lies where v lay, or in a block that is not below B. -/
def LiesOr (B : Nat) (v v' : Value) : Prop := ∀ g, v'.ownBlock = some g → v.ownBlock = some g ∨ B ≤ g
theorem run_append_lies (t ty e : TypeId) (i : TypeInfo) (z : Value) (size bytes : Nat) (base : Nat) (ht : P.underlying t = some (.slice e)) (hi : P.info? e = some i) (hz : i.zero = some z)
    (hsize : i.size = size) (hby : i.bytes = bytes) (hzs : z.cells.size = size) (hsz : 0 < size)
    (v : Value) (n : Nat) (xs : List Value) (hown : w.ownsRow base e size v n xs)
    (a : Addr) (m c : Nat) (news : List Value) (hl : news.length = m * size) (hnews : ∀ j u, news[j]? = some u → w.cell? (a.add j) = some u) (h1 : ∀ u ∈ news, u.oneCell' = true)
    (h63 : n + m ≤ maxLen) (hbytes : (n + m) * bytes ≤ 140737488355328) (hbase : base ≤ w.heap.size) (v' : Value) (w' : World)
    (hrun : (Builtin.append_ #[t, t] ty #[v, .slice (some a) m c]).run P w = .ok v' w') : LiesOr w.heap.size v v' := by
  rcases hown.2 with ⟨rfl, rfl⟩ | ⟨g, cap, cur, rfl, hbg, hg, hnc, hcm, hcs, htake⟩
  · have hx : xs = [] := List.eq_nil_of_length_eq_zero (by simpa using hown.1)
    subst hx
    obtain ⟨v2, w2, hr, h2, _⟩ := run_append_own (P := P) w w.heap.size t ty e i z size bytes ht hi hz hsize hby hzs hsz (.slice none 0 0) 0 [] (World.ownsRow_nil w w.heap.size e size) a m c news hl hnews h1 h63 hbytes (Nat.le_refl _)
    rw [hrun] at hr
    injection hr with hv hw
    subst hv
    exact fun g hg => .inr (h2.lt g hg).1
  · subst hsize
    have hsmall : n + m ≤ 9223372036854775807 := by simp only [maxLen] at h63; omega
    by_cases hroom : n + m ≤ cap
    · have hfit : n * i.size + news.length ≤ cur.size := by rw [hl, hcs, ← Nat.add_mul]; exact Nat.mul_le_mul_right _ hroom
      have hr := run_append_room (P := P) w t ty e i ht hi g n cap cur hg a m c news hl hnews h1 hroom hfit
      rw [hrun] at hr
      injection hr with hv hw
      subst hv
      exact fun k hk => .inl hk
    · have holds : ∀ j u, xs[j]? = some u → w.cell? ((⟨g, 0, none⟩ : Addr).add j) = some u := hown.cells (g := g) rfl
      have hr := run_append_grow (P := P) w t ty e i z ht hi hz ⟨g, 0, none⟩ n cap xs hown.1 holds a m c news hl hnews (by omega) (by omega) (by subst hby; exact growslice_fits (by omega) hbytes)
      rw [hrun] at hr
      injection hr with hv hw
      subst hv
      refine fun k hk => .inr ?_
      simp only [Value.ownBlock, Option.some.injEq] at hk
      omega
/-- append of m elements, with the word where the row lies. -/
theorem wpList_pushM {T E : TypeId} {z : Value} {size bytes : Nat} (el : El P T E z size bytes) {ops : Array Oper} {rest : List Oper} {o : Oper} {a : Act} {Q : Exit → Act → World → Prop} (hgd : o.guard = none) (s x : Operand)
    (ho : o.op = .call { callee := .builtin .append, args := #[s, x], argTypes := #[T, T] })
    (base : Nat) (v : Value) (n : Nat) (xs : List Value) (hown : w.ownsRow base E size v n xs) (hs : a.eval s = v)
    (ad : Addr) (m c : Nat) (news : List Value) (hx : a.eval x = .slice (some ad) m c) (hl : news.length = m * size) (hnews : ∀ j u, news[j]? = some u → w.cell? (ad.add j) = some u) (h1 : ∀ u ∈ news, u.oneCell' = true)
    (h63 : n + m ≤ 140737488355328) (hbytes : (n + m) * bytes ≤ 140737488355328) (hbase : base ≤ w.heap.size)
    (h : ∀ v' w', w'.ownsRow base E size v' (n + m) (xs ++ news) → w.grownBy w' v.ownBlock → LiesOr w.heap.size v v' → wpList P ops Q rest (a.put o.dst v') w') : wpList P ops Q (o :: rest) a w := by
  obtain ⟨i, hi, hz, hz1, hz2⟩ := el.info
  refine wpList_plain hgd fun K hK => ?_
  obtain ⟨v', w', hr, h2, h3, h4⟩ := run_append_own (P := P) w base T o.type E i z size bytes el.ht hi hz hz1 hz2 el.hz el.hs v n xs hown ad m c news hl hnews h1 (by unfold maxLen; omega) hbytes hbase
  have h5 := run_append_lies (P := P) T o.type E i z size bytes base el.ht hi hz hz1 hz2 el.hz el.hs v n xs hown ad m c news hl hnews h1 (by unfold maxLen; omega) hbytes hbase v' w' hr
  unfold Oper.wp execOp
  simp only [ho, resolve, invoke, builtin, Sem.run_bind, Sem.run_pure, Result.andThen_ok, List.map_toArray, List.map_cons, List.map_nil, hs, hx, hr]
  exact hK _ _ (h v' w' h2 h3 h5)
theorem add_zero_addr (g j : Nat) : (⟨g, 0, none⟩ : Addr).add j = ⟨g, j, none⟩ := by unfold Addr.add; split <;> simp_all
/-- append(s, x), x one element of one cell: it lies in the block g. -/
theorem wpList_pushD {T E : TypeId} {z : Value} {bytes : Nat} (el : El P T E z 1 bytes) {ops : Array Oper} {rest : List Oper} {o : Oper} {a : Act} {Q : Exit → Act → World → Prop} (hgd : o.guard = none) (s x : Operand)
    (ho : o.op = .call { callee := .builtin .append, args := #[s, x], argTypes := #[T, T] })
    (base : Nat) (v : Value) (n : Nat) (xs : List Value) (hown : w.ownsRow base E 1 v n xs) (hs : a.eval s = v)
    (g c : Nat) (u : Value) (hx : a.eval x = .slice (some ⟨g, 0, none⟩) 1 c) (hu : w.cell? ⟨g, 0, none⟩ = some u) (h1 : u.oneCell' = true)
    (h63 : n + 1 ≤ 140737488355328) (hbytes : (n + 1) * bytes ≤ 140737488355328) (hbase : base ≤ w.heap.size)
    (h : ∀ v' w', w'.ownsRow base E 1 v' (n + 1) (xs ++ [u]) → w.grownBy w' v.ownBlock → LiesOr w.heap.size v v' → wpList P ops Q rest (a.put o.dst v') w') : wpList P ops Q (o :: rest) a w := by
  refine wpList_pushM el hgd s x ho base v n xs hown hs ⟨g, 0, none⟩ 1 c [u] hx rfl ?_ ?_ h63 hbytes hbase h
  · intro j y hj
    cases j with
    | zero => simp at hj; subst hj; exact hu
    | succ j => simp at hj
  · intro y hy
    simp at hy; subst hy; exact h1
end
/-- Two rows of the call's own do not lie in one block. -/
def Apart (v u : Value) : Prop := ∀ g, v.ownBlock = some g → u.ownBlock ≠ some g
theorem Apart.symm {v u : Value} (h : Apart v u) : Apart u v := fun g h1 h2 => h g h2 h1
theorem Apart.nil (u : Value) : Apart (.slice none 0 0) u := fun g h => by cases h
theorem Apart.nil' (u : Value) : Apart u (.slice none 0 0) := fun g h h' => by cases h'
/-- A row that was appended to is still apart from another old one. -/
theorem Apart.grow {w : World} {v v' u : Value} {base : Nat} {e : TypeId} {size n : Nat} {xs : List Value} (h : Apart v u) (hl : LiesOr w.heap.size v v') (hu : w.ownsRow base e size u n xs) : Apart v' u := by
  intro g h1 h2
  rcases hl g h1 with h3 | h3
  · exact h g h3 h2
  · have := (hu.lt g h2).2; omega
/-- The other row is kept. -/
theorem Apart.kept {w w' : World} {v u : Value} {base : Nat} {e : TypeId} {size n : Nat} {xs : List Value} (h : Apart v u) (hg : w.grownBy w' v.ownBlock) (hu : w.ownsRow base e size u n xs) : w'.ownsRow base e size u n xs := by
  refine hu.kept hg ?_
  cases hb : u.ownBlock with
  | none => exact .inl rfl
  | some g => exact .inr fun e => h g e.symm hb
end Go.Dam
