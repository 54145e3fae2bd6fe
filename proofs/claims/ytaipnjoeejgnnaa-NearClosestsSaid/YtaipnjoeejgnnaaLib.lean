/-
  Helper lemmas for all claims of this seat: how an argument that can be read as data lies in memory (a slice that reads as a list, a struct of plain fields), and how that reading is kept while the call makes blocks of its own. Conditions: none; nothing here names the program.
-/
import Derived.WalkKit
import Derived.ProofKit
import Derived.OpenShut
import Derived.ShutString
import Derived.ChangeOld
import Derived.Below
import Derived.Laws.OwnMore
import Derived.Deep.AppendLies
import Derived.Deep.Draws
import Derived.Laws.Rows
import Derived.Deep.Slices
import Derived.Deep.Fields
import Derived.Lib.SmallJoins
import Derived.Lib.Hide
import Derived.SizedLaws
namespace Go.Dam
open Go Go.RowKit Go.ChangeShapes Go.WideShapes Go.Joins Go.Deep
set_option linter.unusedVariables false

theorem block_of_add (a : Addr) (n : Nat) : (a.add n).block = a.block := by unfold Addr.add; split <;> rfl
theorem add_of_add (a : Addr) (i j : Nat) : (a.add i).add j = a.add (i + j) := by
  unfold Addr.add
  by_cases hi : i = 0 <;> by_cases hj : j = 0 <;> simp [hi, hj, Nat.add_assoc]

/-- The slice value with address A and n elements of 'size' cells each reads as the cells xs, and lies below block B. -/
def Reads (w : World) (B size : Nat) (A : Option Addr) (n : Nat) (xs : List Value) : Prop :=
  xs.length = n * size ∧ (0 < n → ∃ ad, A = some ad ∧ ad.block < B ∧ ∀ j u, xs[j]? = some u → w.cell? (ad.add j) = some u)

section
variable {w w' : World} {B B' size n : Nat} {A : Option Addr} {xs : List Value}
theorem Reads.none_ : Reads w B size A 0 [] := ⟨by simp, fun h => absurd h (by omega)⟩
theorem Reads.at_ {k : Nat} (h : Reads w B 1 A n xs) (hk : k < n) : ∃ ad u, A = some ad ∧ ad.block < B ∧ xs[k]? = some u ∧ w.cell? (ad.add k) = some u := by
  obtain ⟨ad, e, hb, hc⟩ := h.2 (by omega)
  have hl : k < xs.length := by have := h.1; omega
  exact ⟨ad, xs[k], e, hb, List.getElem?_eq_getElem hl, hc k _ (List.getElem?_eq_getElem hl)⟩
theorem cell_spot {w : World} {a : Addr} {v : Value} (h : w.cell? a = some v) : a.spot = none := by
  unfold World.cell? at h
  split at h
  · split at h
    · cases h
    · rename_i hs; simpa using hs
  · cases h
theorem Reads.addr (h : Reads w B 1 A n xs) (hn : 0 < n) : ∃ b off, A = some ⟨b, off, none⟩ ∧ b < B ∧ ∀ k, k < n → ∃ u, xs[k]? = some u ∧ w.cell? ⟨b, off + k, none⟩ = some u := by
  obtain ⟨ad, e, hb, hc⟩ := h.2 hn
  obtain ⟨b, off, sp⟩ := ad
  have key : ∀ k, k < n → ∃ u, xs[k]? = some u ∧ w.cell? ((⟨b, off, sp⟩ : Addr).add k) = some u := by
    intro k hk
    have hl : k < xs.length := by have := h.1; omega
    exact ⟨xs[k], List.getElem?_eq_getElem hl, hc k _ (List.getElem?_eq_getElem hl)⟩
  obtain ⟨u0, _, hu0⟩ := key 0 hn
  have hsp : sp = none := by simpa [Addr.add] using cell_spot hu0
  subst hsp
  refine ⟨b, off, e, hb, fun k hk => ?_⟩
  obtain ⟨u, hx, hu⟩ := key k hk
  refine ⟨u, hx, ?_⟩
  unfold Addr.add at hu
  split at hu
  · rename_i h0; subst h0; exact hu
  · exact hu
theorem Reads.keep (h : Reads w B size A n xs) (hk : ∀ p : Addr, p.block < B → w'.cell? p = w.cell? p) : Reads w' B size A n xs :=
  ⟨h.1, fun hn => by
    obtain ⟨ad, e, hb, hc⟩ := h.2 hn
    exact ⟨ad, e, hb, fun j u hu => (hk _ (by rw [block_of_add]; exact hb)).trans (hc j u hu)⟩⟩
theorem Reads.more (h : Reads w B size A n xs) (hB : B ≤ B') : Reads w B' size A n xs :=
  ⟨h.1, fun hn => by
    obtain ⟨ad, e, hb, hc⟩ := h.2 hn
    exact ⟨ad, e, by omega, hc⟩⟩
theorem Reads.below (h : Reads w B size A n xs) (hb : Below B w w') : Reads w' B size A n xs := h.keep fun _ hp => hb.cell hp
theorem Reads.drew (h : Reads w B size A n xs) : Reads w.drew B size A n xs := h
theorem Reads.drewN (h : Reads w B size A n xs) (k : Nat) : Reads (w.drewN k) B size A n xs := h
theorem Reads.alloc (h : Reads w B size A n xs) (hB : B ≤ w.heap.size) (o : Obj) : Reads (w.alloc o) B size A n xs := h.keep fun p hp => World.cell?_alloc_lt w o p (by omega)
theorem Reads.setCell (h : Reads w B size A n xs) {p : Addr} (hB : B ≤ p.block) (u : Value) : Reads (w.setCell p u) B size A n xs :=
  h.keep fun q hq => World.cell?_setCell_other w p q u (fun e => by subst e; omega)
theorem Reads.grown (h : Reads w B size A n xs) {row : Option Nat} (hg : w.grownBy w' row) (hB : B ≤ w.heap.size) (hr : ∀ g, row = some g → B ≤ g) : Reads w' B size A n xs :=
  h.keep fun p hp => World.cell?_of_block (hg.block p.block (by omega) (fun e => by have := hr _ e.symm; omega))
theorem Reads.cut (h : Reads w B size A n xs) {k cap : Nat} (hk : k ≤ n) (hc : n ≤ cap) :
    Reads w B size (if cap = k then A else A.map (·.add (k * size))) (n - k) (xs.drop (k * size)) := by
  refine ⟨by rw [List.length_drop, h.1, Nat.sub_mul], fun hn => ?_⟩
  obtain ⟨ad, rfl, hb, hcell⟩ := h.2 (by omega)
  rw [if_neg (by omega)]
  refine ⟨ad.add (k * size), rfl, by rw [block_of_add]; exact hb, fun j u hu => ?_⟩
  rw [add_of_add]
  exact hcell _ u (by rw [← hu, List.getElem?_drop])
theorem Reads.take (h : Reads w B size A n xs) {k : Nat} (hk : k ≤ n) : Reads w B size A k (xs.take (k * size)) := by
  refine ⟨by rw [List.length_take, h.1]; exact Nat.min_eq_left (Nat.mul_le_mul_right _ hk), fun hn => ?_⟩
  obtain ⟨ad, rfl, hb, hcell⟩ := h.2 (by omega)
  refine ⟨ad, rfl, hb, fun j u hu => ?_⟩
  rw [List.getElem?_take] at hu
  split at hu
  · exact hcell _ u hu
  · cases hu
theorem Reads.of_own {base : Nat} {e : TypeId} {c : Nat} (h : w.ownsRow base e size (.slice A n c) n xs) : Reads w w.heap.size size A n xs := by
  refine ⟨h.1, fun hn => ?_⟩
  obtain ⟨g, cap, hv, _, hlt⟩ := h.form hn
  have hA : A = some ⟨g, 0, none⟩ := by injection hv
  subst hA
  exact ⟨_, rfl, hlt, h.cells (g := g) rfl⟩
end

/-- Block g is just the cells cs of element type t, none frozen. -/
def Blk (w : World) (g : Nat) (t : TypeId) (cs : Array Value) : Prop := w.heap[g]? = some (.cells cs t (0, 0))
section
variable {w w' : World} {g : Nat} {t : TypeId} {cs : Array Value}
theorem Blk.lt (h : Blk w g t cs) : g < w.heap.size := by
  rcases Nat.lt_or_ge g w.heap.size with hlt | hge
  · exact hlt
  · unfold Blk at h; rw [Array.getElem?_eq_none hge] at h; cases h
theorem Blk.cell (h : Blk w g t cs) (i : Nat) : w.cell? ⟨g, i, none⟩ = cs[i]? := cell_of_row w g i cs t (0, 0) h
theorem Blk.frozen (h : Blk w g t cs) (i : Nat) : w.frozen? ⟨g, i, none⟩ = false := by
  unfold Blk at h
  simp [World.frozen?, h]
theorem Blk.new (w : World) (t : TypeId) (cs : Array Value) : Blk (w.alloc (.cells cs t)) w.heap.size t cs := heap_alloc_new w _
theorem Blk.new_at (w : World) (t : TypeId) (cs : Array Value) (g : Nat) (hg : g = w.heap.size) : Blk (w.alloc (.cells cs t)) g t cs := by subst hg; exact Blk.new w t cs
theorem Blk.drew (h : Blk w g t cs) : Blk w.drew g t cs := h
theorem Blk.drewN (h : Blk w g t cs) (n : Nat) : Blk (w.drewN n) g t cs := h
theorem Blk.alloc (h : Blk w g t cs) (o : Obj) : Blk (w.alloc o) g t cs := (Below.heap_alloc w o g h.lt).trans h
theorem Blk.set_ (h : Blk w g t cs) (i : Nat) (u : Value) : Blk (w.setCell ⟨g, i, none⟩ u) g t (cs.setIfInBounds i u) := by
  unfold Blk at h ⊢
  simp [World.setCell, Array.getElem?_modify, h]
theorem Blk.far (h : Blk w g t cs) {p : Addr} (hp : g ≠ p.block) (u : Value) : Blk (w.setCell p u) g t cs := (Below.heap_setCell w p u g hp).trans h
theorem Blk.below {B : Nat} (h : Blk w g t cs) (hb : Below B w w') (hg : g < B) : Blk w' g t cs := (hb.block g hg).trans h
theorem Blk.grown {row : Option Nat} (h : Blk w g t cs) (hb : w.grownBy w' row) (hg : some g ≠ row) : Blk w' g t cs := (hb.block g h.lt hg).trans h
theorem Blk.ne_ {g' : Nat} {t' : TypeId} {cs' : Array Value} (h : Blk w g t cs) (h' : Blk w g' t' cs') (hne : t ≠ t') : g ≠ g' := by
  rintro rfl
  unfold Blk at h h'
  rw [h] at h'
  injection h' with h'
  injection h' with _ ht
  exact hne ht
end

/-! ### From a datum's reading to 'Reads' -/
section
variable {H : Type} {enc : TypeId × Value → H} {P : Program} {w : World} {base : Nat} {spare : Nat → Bool} {held : Bool}

theorem cell_lt {w : World} {a : Addr} {v : Value} (h : w.cell? a = some v) : a.block < w.heap.size := by
  unfold World.cell? at h
  rcases Nat.lt_or_ge a.block w.heap.size with hlt | hge
  · exact hlt
  · rw [Array.getElem?_eq_none hge] at h; cases h

/-- No part of the datum is longer than the form's reach. -/
def Sized (P : Program) (t : TypeId) (d : DataW H) : Prop := ∀ n ∈ d.weights P t, n ≤ reachBytes
theorem weightsAll_mem {e : TypeId} {d : DataW H} {n : Nat} : ∀ {l : List (DataW H)}, d ∈ l → n ∈ d.weights P e → n ∈ DataW.weightsAll P e l
  | x :: l, hd, hn => by
    simp only [DataW.weightsAll, List.mem_append]
    rcases List.mem_cons.1 hd with rfl | hd
    · exact Or.inl hn
    · exact Or.inr (weightsAll_mem hd hn)
theorem Sized.field {t : TypeId} {fs : Array Field} {parts : List (DataW H)} (ht : P.underlying t = some (.struct fs)) (hz : Sized P t (.agg parts)) {j : Nat} {f : Field} {d : DataW H} (hf : fs[j]? = some f) (hd : parts[j]? = some d) : Sized P f.type d := by
  intro n hn
  refine hz n ?_
  simp only [DataW.weights, ht]
  exact DataW.weights_mem_each (by simpa using ⟨f, hf, rfl⟩) hd n hn
theorem sized_arg {ts : List TypeId} {ds : List (DataW H)} (h : (DataW.weightsEach P ts ds).all (· ≤ reachBytes) = true) {j : Nat} {t : TypeId} {d : DataW H} (ht : ts[j]? = some t) (hd : ds[j]? = some d) : Sized P t d := by
  intro n hn
  have := List.all_eq_true.1 h n (DataW.weights_mem_each ht hd n hn)
  simpa using this

/-- Whatever slice can be read as data: 'Reads', and each element's cells read as data of the element's type. -/
theorem open_reads {t e : TypeId} {s fuel : Nat} {cs : List Value} {x : DataW H × List MemPlace} (ht : P.underlying t = some (.slice e)) (hs : P.cellsOf e = s) (hs0 : 0 < s)
    (h : DataW.trod enc P w base spare held fuel t cs = some x) (hz : Sized P t x.1) :
    ∃ A n c vs, cs = [.slice A n c] ∧ n ≤ c ∧ c ≤ maxLen ∧ n * P.bytesOf e ≤ reachBytes ∧ Reads w w.heap.size s A n vs ∧
      ∀ i, i < n → ∃ f y, DataW.trod enc P w base spare held f e ((vs.drop (i * s)).take s) = some y ∧ Sized P e y.1 := by
  rcases open_slice ht h with ⟨rfl, rfl⟩ | ⟨a, len, cap, m, n, D, Pl, rfl, hb, hl, hm, hmm, hx, hi⟩
  · exact ⟨none, 0, 0, [], rfl, Nat.le_refl _, Nat.zero_le _, by simp, Reads.none_, fun i hi => absurd hi (by omega)⟩
  · have hz1 : len * P.bytesOf e ≤ reachBytes := by
      have h1 := hz ((((List.range len).map D).length + ((List.range (m - len)).map fun j => D (len + j)).length) * P.bytesOf e) (by rw [hx]; simp [DataW.weights, ht])
      refine Nat.le_trans (Nat.mul_le_mul_right _ ?_) h1
      simp
    have hz2 : ∀ i, i < len → Sized P e (D i) := by
      intro i hil n hn
      refine hz n ?_
      rw [hx]
      simp only [DataW.weights, ht, List.mem_cons, List.mem_append]
      exact Or.inr (Or.inl (weightsAll_mem (List.mem_map.2 ⟨i, List.mem_range.2 hil, rfl⟩) hn))
    rw [hs] at hi
    have hlm : len ≤ m := by rw [hmm]; split <;> omega
    let vs := (List.range (len * s)).map fun j => (w.cell? (a.add j)).getD undef
    have hvl : vs.length = len * s := by simp [vs]
    have key : ∀ i, i < len → ∃ cs', cs'.length = s ∧ (∀ j, j < s → w.cell? (a.add (i * s + j)) = cs'[j]?) ∧ DataW.trod enc P w base spare held n e cs' = some (D i, Pl i) := by
      intro i hil
      obtain ⟨cs', hc, ht'⟩ := hi i (by omega)
      obtain ⟨_, hcl, hat⟩ := World.cells?_some hc
      exact ⟨cs', hcl, fun j hj => by rw [← add_of_add]; exact hat j hj, ht'⟩
    have hcell : ∀ j, j < len * s → ∃ u, w.cell? (a.add j) = some u := by
      intro j hj
      have hq : j / s < len := by rw [Nat.div_lt_iff_lt_mul hs0]; exact hj
      have hr : j % s < s := Nat.mod_lt _ hs0
      obtain ⟨cs', hcl, hat, _⟩ := key (j / s) hq
      have := hat (j % s) hr
      rw [show j / s * s + j % s = j from by rw [Nat.mul_comm]; exact Nat.div_add_mod j s] at this
      exact ⟨cs'[j % s]'(by omega), by rw [this]; exact List.getElem?_eq_getElem (by omega)⟩
    have hvs : ∀ j, j < len * s → w.cell? (a.add j) = vs[j]? := by
      intro j hj
      obtain ⟨u, hu⟩ := hcell j hj
      simp [vs, hj, hu]
    refine ⟨some a, len, cap, vs, rfl, hl, hm, hz1, ⟨hvl, fun hn => ⟨a, rfl, ?_, fun j u hu => ?_⟩⟩, fun i hil => ⟨n, (D i, Pl i), ?_, hz2 i hil⟩⟩
    · obtain ⟨u, hu⟩ := hcell 0 (Nat.mul_pos hn hs0)
      have := cell_lt hu
      rwa [block_of_add] at this
    · have hj : j < len * s := by
        rw [← hvl]
        rcases Nat.lt_or_ge j vs.length with h | h
        · exact h
        · rw [List.getElem?_eq_none h] at hu; cases hu
      rw [hvs j hj, hu]
    · obtain ⟨cs', hcl, hat, ht'⟩ := key i hil
      rw [← ht']
      congr 1
      have hle : i * s + s ≤ len * s := by
        have : (i + 1) * s ≤ len * s := Nat.mul_le_mul_right _ (by omega)
        rwa [Nat.succ_mul] at this
      apply List.ext_getElem?
      intro j
      rw [List.getElem?_take, List.getElem?_drop]
      split
      · rename_i hj
        rw [← hvs _ (by omega), hat j hj]
      · rw [List.getElem?_eq_none (by omega)]

/-- A slice of integers. -/
theorem open_list {t e : TypeId} {k : IntKind} {fuel : Nat} {cs : List Value} {x : DataW H × List MemPlace} (ht : P.underlying t = some (.slice e)) (he : P.underlying e = some (.int k)) (hs : P.cellsOf e = 1)
    (h : DataW.trod enc P w base spare held fuel t cs = some x) (hz : Sized P t x.1) :
    ∃ A n c, ∃ l : List Int, cs = [.slice A n c] ∧ n ≤ c ∧ c ≤ maxLen ∧ n * P.bytesOf e ≤ reachBytes ∧ l.length = n ∧ Reads w w.heap.size 1 A n (l.map (Value.int k)) ∧ ∀ z ∈ l, (Lit.int k z).wf = true := by
  obtain ⟨A, n, c, vs, rfl, hc, hm, hby, hr, hi⟩ := open_reads ht hs (by omega) h hz
  have hl : vs.length = n := by have := hr.1; omega
  have key : ∀ i, i < n → ∃ z, vs[i]? = some (.int k z) ∧ (Lit.int k z).wf = true := by
    intro i hin
    obtain ⟨f, y, hy, _⟩ := hi i hin
    obtain ⟨z, hz, _, hw⟩ := DataW.trod_int he hy
    have h0 : ((vs.drop (i * 1)).take 1)[0]? = vs[i]? := by simp
    rw [hz] at h0
    exact ⟨z, h0.symm, hw⟩
  refine ⟨A, n, c, vs.map intOf, rfl, hc, hm, hby, by simpa using hl, ?_, ?_⟩
  · have : (vs.map intOf).map (Value.int k) = vs := by
      apply List.ext_getElem?
      intro j
      rcases Nat.lt_or_ge j n with hj | hj
      · obtain ⟨z, hz, _⟩ := key j hj
        simp [hz, intOf]
      · rw [List.getElem?_eq_none (by simp; omega), List.getElem?_eq_none (by omega)]
    rw [this]; exact hr
  · intro z hz
    obtain ⟨j, hj, rfl⟩ := List.mem_iff_getElem.1 hz
    have hj' : j < vs.length := by simpa using hj
    obtain ⟨z, hz, hw⟩ := key j (by omega)
    rw [List.getElem?_eq_getElem hj'] at hz
    have : vs[j] = .int k z := by injection hz
    simpa [this, intOf] using hw

def boolOf : Value → Bool | .bool b => b | _ => false
/-- A slice of bools. -/
theorem open_bools {t e : TypeId} {fuel : Nat} {cs : List Value} {x : DataW H × List MemPlace} (ht : P.underlying t = some (.slice e)) (he : P.underlying e = some .bool) (hs : P.cellsOf e = 1)
    (h : DataW.trod enc P w base spare held fuel t cs = some x) (hz : Sized P t x.1) :
    ∃ A n c, ∃ l : List Bool, cs = [.slice A n c] ∧ n ≤ c ∧ c ≤ maxLen ∧ n * P.bytesOf e ≤ reachBytes ∧ l.length = n ∧ Reads w w.heap.size 1 A n (l.map Value.bool) := by
  obtain ⟨A, n, c, vs, rfl, hc, hm, hby, hr, hi⟩ := open_reads ht hs (by omega) h hz
  have hl : vs.length = n := by have := hr.1; omega
  refine ⟨A, n, c, vs.map boolOf, rfl, hc, hm, hby, by simpa using hl, ?_⟩
  have : (vs.map boolOf).map Value.bool = vs := by
    apply List.ext_getElem?
    intro j
    rcases Nat.lt_or_ge j n with hj | hj
    · obtain ⟨f, y, hy, _⟩ := hi j hj
      obtain ⟨z, hz, _⟩ := DataW.trod_bool he hy
      have h0 : ((vs.drop (j * 1)).take 1)[0]? = vs[j]? := by simp
      rw [hz] at h0
      simp [← h0, boolOf]
    · rw [List.getElem?_eq_none (by simp; omega), List.getElem?_eq_none (by omega)]
  rw [this]; exact hr

theorem wf_u64 {x : Int} (h : (Lit.int .u64 x).wf = true) : ∃ n : Nat, x = n ∧ n < 18446744073709551616 := by
  have hx : 0 ≤ x ∧ x ≤ 18446744073709551615 := by simpa [Lit.wf, IntKind.min, IntKind.max, IntKind.signed, IntKind.bits] using h
  exact ⟨x.toNat, by omega, by omega⟩
theorem wf_i64 {x : Int} (h : (Lit.int .i64 x).wf = true) : -9223372036854775808 ≤ x ∧ x ≤ 9223372036854775807 := by
  simpa [Lit.wf, IntKind.min, IntKind.max, IntKind.signed, IntKind.bits] using h
theorem wf_u8 {x : Int} (h : (Lit.int .u8 x).wf = true) : 0 ≤ x ∧ x ≤ 255 := by
  simpa [Lit.wf, IntKind.min, IntKind.max, IntKind.signed, IntKind.bits] using h

/-! ### What a walk is told of an argument -/
def IsInts (k : IntKind) (w : World) (B : Nat) (v : Value) (l : List Int) : Prop :=
  ∃ A c, v = .slice A l.length c ∧ l.length ≤ c ∧ c ≤ maxLen ∧ l.length ≤ 140737488351232 ∧ Reads w B 1 A l.length (l.map (Value.int k)) ∧ ∀ z ∈ l, (Lit.int k z).wf = true
def IsBools (w : World) (B : Nat) (v : Value) (l : List Bool) : Prop :=
  ∃ A c, v = .slice A l.length c ∧ l.length ≤ c ∧ c ≤ maxLen ∧ l.length ≤ 140737488351232 ∧ Reads w B 1 A l.length (l.map Value.bool)
/-- A slice of words, as natural numbers. -/
def wordV (n : Nat) : Value := .int .u64 n
def IsWords (w : World) (B : Nat) (v : Value) (l : List Nat) : Prop :=
  ∃ A c, v = .slice A l.length c ∧ l.length ≤ c ∧ c ≤ maxLen ∧ l.length ≤ 140737488351232 ∧ Reads w B 1 A l.length (l.map wordV) ∧ ∀ z ∈ l, z < 18446744073709551616
def I64 (x : Int) : Prop := -9223372036854775808 ≤ x ∧ x ≤ 9223372036854775807
def IsBits (w : World) (B : Nat) (v : Value) (n : Int) (l : List Nat) : Prop :=
  ∃ s, v = .agg #[.int .i64 n, s] ∧ I64 n ∧ IsWords w B s l
def IsPacked (w : World) (B : Nat) (v : Value) (n m : Int) (l : List Nat) : Prop :=
  ∃ s, v = .agg #[.int .i64 n, .int .i64 m, s] ∧ I64 n ∧ I64 m ∧ IsWords w B s l

variable {r : Reach} {b0 : Nat} {t e : TypeId} {v : Value} {d : DataW H} {ps : List MemPlace}
theorem arg_u64 (ht : P.underlying t = some (.int .u64)) (hv : Value.okWide P w r b0 t v) (h : DataW.Trod enc P w base spare held t v d ps) (hz : Sized P t d) : ∃ n : Nat, v = .int .u64 n ∧ n < 18446744073709551616 := by
  obtain ⟨x, rfl, _, _, hw⟩ := open_int ht hv h
  obtain ⟨n, rfl, hn⟩ := wf_u64 hw
  exact ⟨n, rfl, hn⟩
theorem arg_i64 (ht : P.underlying t = some (.int .i64)) (hv : Value.okWide P w r b0 t v) (h : DataW.Trod enc P w base spare held t v d ps) (hz : Sized P t d) : ∃ x : Int, v = .int .i64 x ∧ I64 x := by
  obtain ⟨x, rfl, _, _, hw⟩ := open_int ht hv h
  exact ⟨x, rfl, wf_i64 hw⟩
theorem arg_bool (ht : P.underlying t = some .bool) (hv : Value.okWide P w r b0 t v) (h : DataW.Trod enc P w base spare held t v d ps) (hz : Sized P t d) : ∃ x : Bool, v = .bool x := by
  obtain ⟨x, rfl, _, _⟩ := open_bool ht hv h
  exact ⟨x, rfl⟩
theorem arg_string (ht : P.underlying t = some .string) (hv : Value.okWide P w r b0 t v) (h : DataW.Trod enc P w base spare held t v d ps) (hz : Sized P t d) : ∃ s : ByteArray, v = .string s ∧ s.size ≤ 140737488351232 := by
  obtain ⟨x, rfl, rfl, _, hs⟩ := Go.ChangeMaps.open_string ht hv h
  have := hz x.data.toList.length (by simp [DataW.weights])
  exact ⟨x, rfl, by simpa [reachBytes] using this⟩
theorem ints_of {k : IntKind} {fuel : Nat} {x : DataW H × List MemPlace} (ht : P.underlying t = some (.slice e)) (he : P.underlying e = some (.int k)) (hs : P.cellsOf e = 1) (hby : 1 ≤ P.bytesOf e)
    (h : DataW.trod enc P w base spare held fuel t [v] = some x) (hz : Sized P t x.1) : ∃ l, IsInts k w w.heap.size v l := by
  obtain ⟨A, n, c, l, hcs, hc, hm, hb, rfl, hr, hw⟩ := open_list ht he hs h hz
  simp only [List.cons.injEq, and_true] at hcs
  have : l.length * 1 ≤ l.length * P.bytesOf e := Nat.mul_le_mul_left _ hby
  have hr2 : reachBytes = 140737488351232 := rfl
  exact ⟨l, A, c, hcs, hc, hm, by omega, hr, hw⟩
theorem arg_ints {k : IntKind} (ht : P.underlying t = some (.slice e)) (he : P.underlying e = some (.int k)) (hs : P.cellsOf e = 1) (hby : 1 ≤ P.bytesOf e) (hv : Value.okWide P w r b0 t v) (h : DataW.Trod enc P w base spare held t v d ps) (hz : Sized P t d) :
    ∃ l, IsInts k w w.heap.size v l := by
  obtain ⟨a, len, cap, rfl⟩ := okWide_slice ht hv
  obtain ⟨fuel, hf⟩ := h
  exact ints_of ht he hs hby hf hz
theorem words_of_ints {B : Nat} {l : List Int} (h : IsInts .u64 w B v l) : ∃ ws, IsWords w B v ws := by
  obtain ⟨A, c, rfl, hc, hm, hb, hr, hw⟩ := h
  refine ⟨l.map Int.toNat, A, c, by simp, by simpa using hc, hm, by simpa using hb, ?_, ?_⟩
  · have : (l.map Int.toNat).map wordV = l.map (Value.int .u64) := by
      rw [List.map_map]
      refine List.map_congr_left fun z hz => ?_
      obtain ⟨n, rfl, _⟩ := wf_u64 (hw z hz)
      rfl
    rw [this, List.length_map]; exact hr
  · intro z hz
    obtain ⟨y, hy, rfl⟩ := List.mem_map.1 hz
    obtain ⟨n, rfl, hn⟩ := wf_u64 (hw y hy)
    simpa using hn
theorem arg_words (ht : P.underlying t = some (.slice e)) (he : P.underlying e = some (.int .u64)) (hs : P.cellsOf e = 1) (hby : 1 ≤ P.bytesOf e) (hv : Value.okWide P w r b0 t v) (h : DataW.Trod enc P w base spare held t v d ps) (hz : Sized P t d) :
    ∃ l, IsWords w w.heap.size v l := by
  obtain ⟨l, hl⟩ := arg_ints ht he hs hby hv h hz
  exact words_of_ints hl
theorem arg_bools (ht : P.underlying t = some (.slice e)) (he : P.underlying e = some .bool) (hs : P.cellsOf e = 1) (hby : 1 ≤ P.bytesOf e) (hv : Value.okWide P w r b0 t v) (h : DataW.Trod enc P w base spare held t v d ps) (hz : Sized P t d) :
    ∃ l, IsBools w w.heap.size v l := by
  obtain ⟨a, len, cap, rfl⟩ := okWide_slice ht hv
  obtain ⟨fuel, hf⟩ := h
  obtain ⟨A, n, c, l, hcs, hc, hm, hb, rfl, hr⟩ := open_bools ht he hs hf hz
  simp only [Value.cells, List.cons.injEq, and_true] at hcs
  have : l.length * 1 ≤ l.length * P.bytesOf e := Nat.mul_le_mul_left _ hby
  have hr2 : reachBytes = 140737488351232 := rfl
  exact ⟨l, A, c, hcs, hc, hm, by omega, hr⟩
theorem arg_bits {f0 f1 : Field} {u : TypeId} (ht : P.underlying t = some (.struct #[f0, f1])) (h0 : P.underlying f0.type = some (.int .i64)) (h1 : P.underlying f1.type = some (.slice u)) (hu : P.underlying u = some (.int .u64)) (hs : P.cellsOf u = 1) (hby : 1 ≤ P.bytesOf u)
    (hone : oneCellFields P #[f0, f1] = true) (hC : P.cellsOf t = 2) (hv : Value.okWide P w r b0 t v) (h : DataW.Trod enc P w base spare held t v d ps) (hz : Sized P t d) :
    ∃ n l, IsBits w w.heap.size v n l := by
  obtain ⟨v0, v1, y0, y1, n, rfl, rfl, _, t0, t1⟩ := open_agg2 ht hone hC hv h
  obtain ⟨x, hx, _, hw⟩ := DataW.trod_int h0 t0
  simp only [List.cons.injEq, and_true] at hx
  subst hx
  obtain ⟨l, hl⟩ := ints_of h1 hu hs hby t1 (hz.field ht (j := 1) rfl rfl)
  obtain ⟨ws, hws⟩ := words_of_ints hl
  exact ⟨x, ws, v1, rfl, wf_i64 hw, hws⟩
theorem arg_packed {f0 f1 f2 : Field} {u : TypeId} (ht : P.underlying t = some (.struct #[f0, f1, f2])) (h0 : P.underlying f0.type = some (.int .i64)) (h0' : P.underlying f1.type = some (.int .i64)) (h1 : P.underlying f2.type = some (.slice u)) (hu : P.underlying u = some (.int .u64)) (hs : P.cellsOf u = 1) (hby : 1 ≤ P.bytesOf u)
    (hone : oneCellFields P #[f0, f1, f2] = true) (hC : P.cellsOf t = 3) (hv : Value.okWide P w r b0 t v) (h : DataW.Trod enc P w base spare held t v d ps) (hz : Sized P t d) :
    ∃ n m l, IsPacked w w.heap.size v n m l := by
  obtain ⟨v0, v1, v2, y0, y1, y2, n, rfl, rfl, _, t0, t1, t2⟩ := open_agg3 ht hone hC hv h
  obtain ⟨x, hx, _, hw⟩ := DataW.trod_int h0 t0
  simp only [List.cons.injEq, and_true] at hx
  subst hx
  obtain ⟨z, hz', _, hw'⟩ := DataW.trod_int h0' t1
  simp only [List.cons.injEq, and_true] at hz'
  subst hz'
  obtain ⟨l, hl⟩ := ints_of h1 hu hs hby t2 (hz.field ht (j := 2) rfl rfl)
  obtain ⟨ws, hws⟩ := words_of_ints hl
  exact ⟨x, z, ws, v2, rfl, wf_i64 hw, wf_i64 hw', hws⟩
end
section
variable {k : IntKind} {w w' : World} {B B' : Nat} {v : Value} {l : List Int} {ws : List Nat} {lb : List Bool}
theorem IsInts.below (h : IsInts k w B v l) (hb : Below B w w') : IsInts k w' B v l := by
  obtain ⟨A, c, rfl, h1, h2, h5, h3, h4⟩ := h
  exact ⟨A, c, rfl, h1, h2, h5, h3.below hb, h4⟩
theorem IsWords.below (h : IsWords w B v ws) (hb : Below B w w') : IsWords w' B v ws := by
  obtain ⟨A, c, rfl, h1, h2, h5, h3, h4⟩ := h
  exact ⟨A, c, rfl, h1, h2, h5, h3.below hb, h4⟩
theorem IsBools.below (h : IsBools w B v lb) (hb : Below B w w') : IsBools w' B v lb := by
  obtain ⟨A, c, rfl, h1, h2, h5, h3⟩ := h
  exact ⟨A, c, rfl, h1, h2, h5, h3.below hb⟩
theorem IsInts.more (h : IsInts k w B v l) (hB : B ≤ B') : IsInts k w B' v l := by
  obtain ⟨A, c, rfl, h1, h2, h5, h3, h4⟩ := h
  exact ⟨A, c, rfl, h1, h2, h5, h3.more hB, h4⟩
theorem IsWords.more (h : IsWords w B v ws) (hB : B ≤ B') : IsWords w B' v ws := by
  obtain ⟨A, c, rfl, h1, h2, h5, h3, h4⟩ := h
  exact ⟨A, c, rfl, h1, h2, h5, h3.more hB, h4⟩
theorem IsBits.below {n : Int} (h : IsBits w B v n ws) (hb : Below B w w') : IsBits w' B v n ws := by
  obtain ⟨s, rfl, h1, h2⟩ := h
  exact ⟨s, rfl, h1, h2.below hb⟩
theorem IsBits.more {n : Int} (h : IsBits w B v n ws) (hB : B ≤ B') : IsBits w B' v n ws := by
  obtain ⟨s, rfl, h1, h2⟩ := h
  exact ⟨s, rfl, h1, h2.more hB⟩
theorem IsPacked.below {n m : Int} (h : IsPacked w B v n m ws) (hb : Below B w w') : IsPacked w' B v n m ws := by
  obtain ⟨s, rfl, h1, h1', h2⟩ := h
  exact ⟨s, rfl, h1, h1', h2.below hb⟩
end

/-! ### append of one element onto a row of the call's own -/
/-- What the program's tables say of a slice type T and its element type E. -/
structure El (P : Program) (T E : TypeId) (z : Value) (size bytes : Nat) : Prop where
  ht : P.underlying T = some (.slice E)
  hi : (P.info? E).map (fun i => (i.zero, i.size, i.bytes)) = some (some z, size, bytes)
  hz : z.cells.size = size
  hs : 0 < size
section
variable {P : Program} {w : World}
theorem El.info {T E : TypeId} {z : Value} {size bytes : Nat} (h : El P T E z size bytes) : ∃ i, P.info? E = some i ∧ i.zero = some z ∧ i.size = size ∧ i.bytes = bytes := by
  have := h.hi
  cases hi : P.info? E with
  | none => rw [hi] at this; simp at this
  | some i =>
    rw [hi] at this
    simp at this
    exact ⟨i, rfl, this.1, this.2.1, this.2.2⟩
/-- append(s, x), x one element of one cell: it lies in the new block g. -/
theorem wpList_push {T E : TypeId} {z : Value} {bytes : Nat} (el : El P T E z 1 bytes) {ops : Array Oper} {rest : List Oper} {o : Oper} {a : Act} {Q : Exit → Act → World → Prop} (hgd : o.guard = none) (s x : Operand)
    (ho : o.op = .call { callee := .builtin .append, args := #[s, x], argTypes := #[T, T] })
    (base : Nat) (v : Value) (n : Nat) (xs : List Value) (hown : w.ownsRow base E 1 v n xs) (hs : a.eval s = v)
    (g c : Nat) (u : Value) (hx : a.eval x = .slice (some ⟨g, 0, none⟩) 1 c) (hu : w.cell? ⟨g, 0, none⟩ = some u) (h1 : u.oneCell' = true)
    (h63 : n + 1 ≤ 140737488355328) (hbytes : (n + 1) * bytes ≤ 140737488355328) (hbase : base ≤ w.heap.size)
    (h : ∀ v' w', w'.ownsRow base E 1 v' (n + 1) (xs ++ [u]) → w.grownBy w' v.ownBlock → wpList P ops Q rest (a.put o.dst v') w') : wpList P ops Q (o :: rest) a w := by
  obtain ⟨i, hi, hz, hz1, hz2⟩ := el.info
  refine wpList_append_own w hgd s x T ho base E i z 1 bytes el.ht hi hz hz1 hz2 el.hz (by omega) v n xs hs hown ⟨g, 0, none⟩ 1 c [u] hx rfl ?_ ?_ (by unfold maxLen; omega) hbytes hbase fun v' w' h2 h3 _ => h v' w' h2 h3
  · intro j y hj
    cases j with
    | zero => simp at hj; subst hj; exact hu
    | succ j => simp at hj
  · intro y hy
    simp at hy; subst hy; exact h1
/-- What is kept below B over such an append. -/
theorem below_push {B : Nat} {w0 w w' : World} {base : Nat} {E : TypeId} {size n : Nat} {v : Value} {xs : List Value} (hb : Below B w0 w) (hown : w.ownsRow base E size v n xs) (hB : B ≤ base) (hz : B ≤ w.heap.size) (hg : w.grownBy w' v.ownBlock) : Below B w0 w' :=
  hb.grown hg hz fun k hk => Nat.le_trans hB (hown.lt k hk).1
theorem own_bools {base E n : Nat} {v : Value} {l : List Bool} (h : w.ownsRow base E 1 v n (l.map Value.bool)) (hn : l.length ≤ 140737488351232) : IsBools w w.heap.size v l := by
  have hl : l.length = n := by have := h.1; simpa using this
  subst hl
  rcases h.2 with ⟨rfl, h0⟩ | ⟨g, cap, cur, rfl, _, _, hnc, hcm, _⟩
  · exact ⟨none, 0, by rw [h0], by omega, by omega, hn, h.1, fun hp => absurd hp (by omega)⟩
  · exact ⟨_, cap, rfl, hnc, hcm, hn, Reads.of_own h⟩
theorem own_ints {k : IntKind} {base E n : Nat} {v : Value} {l : List Int} (h : w.ownsRow base E 1 v n (l.map (Value.int k))) (hn : l.length ≤ 140737488351232) (hw : ∀ z ∈ l, (Lit.int k z).wf = true) : IsInts k w w.heap.size v l := by
  have hl : l.length = n := by have := h.1; simpa using this
  subst hl
  rcases h.2 with ⟨rfl, h0⟩ | ⟨g, cap, cur, rfl, _, _, hnc, hcm, _⟩
  · exact ⟨none, 0, by rw [h0], by omega, by omega, hn, ⟨h.1, fun hp => absurd hp (by omega)⟩, hw⟩
  · exact ⟨_, cap, rfl, hnc, hcm, hn, Reads.of_own h, hw⟩
theorem own_words {base E n : Nat} {v : Value} {l : List Nat} (h : w.ownsRow base E 1 v n (l.map wordV)) (hn : l.length ≤ 140737488351232) (hw : ∀ z ∈ l, z < 18446744073709551616) : IsWords w w.heap.size v l := by
  have hl : l.length = n := by have := h.1; simpa using this
  subst hl
  rcases h.2 with ⟨rfl, h0⟩ | ⟨g, cap, cur, rfl, _, _, hnc, hcm, _⟩
  · exact ⟨none, 0, by rw [h0], by omega, by omega, hn, ⟨h.1, fun hp => absurd hp (by omega)⟩, hw⟩
  · exact ⟨_, cap, rfl, hnc, hcm, hn, Reads.of_own h, hw⟩
theorem bools_at {B : Nat} {A : Option Addr} {l : List Bool} (hr : Reads w B 1 A l.length (l.map Value.bool)) (hn : 0 < l.length) :
    ∃ b off, A = some ⟨b, off, none⟩ ∧ b < B ∧ ∀ k, k < l.length → w.cell? ⟨b, off + k, none⟩ = some (.bool (l.getD k false)) := by
  obtain ⟨b, off, e, hb, hc⟩ := hr.addr hn
  refine ⟨b, off, e, hb, fun k hk => ?_⟩
  obtain ⟨u, hx, hu⟩ := hc k hk
  rw [hu, ← hx]
  simp [hk]
theorem ints_cells {k : IntKind} {B : Nat} {A : Option Addr} {l : List Int} (hr : Reads w B 1 A l.length (l.map (Value.int k))) (hn : 0 < l.length) :
    ∃ b off, A = some ⟨b, off, none⟩ ∧ b < B ∧ ∀ j, j < l.length → w.cell? ⟨b, off + j, none⟩ = some (.int k (l.getD j 0)) := by
  obtain ⟨b, off, e, hb, hc⟩ := hr.addr hn
  refine ⟨b, off, e, hb, fun j hj => ?_⟩
  obtain ⟨u, hx, hu⟩ := hc j hj
  rw [hu, ← hx]
  simp [hj]
end

/-! ### make([]T, n) -/
theorem run_make_rowN {P : Program} (t e : TypeId) (i : TypeInfo) (z : Value) (ht : P.underlying t = some (.slice e)) (hi : P.info? e = some i) (hz : i.zero = some z)
    (kl kc : IntKind) (n c : Nat) (hnc : n ≤ c) (hbytes : i.bytes * c ≤ 281474976710656) (h63 : c ≤ 9223372036854775807) (w : World) :
    (Instr.makeSlice t (.int kl (n : Int)) (.int kc (c : Int))).run P w = .ok (.slice (some ⟨w.heap.size, 0, none⟩) n c) (w.alloc (.cells (madeCells z.cells (c * i.size)) e)) := by
  have hb : (i.bytes : Int) * (c : Int) ≤ 281474976710656 := by
    have h : ((i.bytes * c : Nat) : Int) ≤ 281474976710656 := by omega
    rwa [Int.natCast_mul] at h
  have hr := run_make (P := P) w t e i z ht hi hz kl kc n c (by omega) (by omega) hb (by omega)
  simp only [Int.toNat_natCast] at hr
  exact hr
/-- make([]T, n), T one cell: a row of n zeros. -/
theorem run_make1 {P : Program} {T E : TypeId} {z : Value} {bytes : Nat} (el : El P T E z 1 bytes) (h1 : z.cells = #[z]) (x : Int) (n : Nat) (hx : x = n) (hn : bytes * n ≤ 281474976710656) (h63 : n ≤ 9223372036854775807) (w : World) :
    (Instr.makeSlice T (.int .i64 x) (.int .i64 x)).run P w = .ok (.slice (some ⟨w.heap.size, 0, none⟩) n n) (w.alloc (.cells (List.replicate n z).toArray E)) := by
  subst hx
  obtain ⟨i, hi, hz, hz1, hz2⟩ := el.info
  rw [run_make_rowN T E i z el.ht hi hz .i64 .i64 n n (Nat.le_refl _) (by rw [hz2]; exact hn) h63 w, hz1, h1]
  congr 3
  have : madeCells #[z] (n * 1) = (List.replicate n z).toArray := by
    unfold madeCells
    apply Array.ext
    · simp
    · intro j h1 h2
      have : j % 1 = 0 := Nat.mod_one j
      simp [this]
  rw [this]
theorem own_shape {w : World} {base : Nat} {e : TypeId} {size n : Nat} {v : Value} {xs : List Value} (h : w.ownsRow base e size v n xs) : ∃ A c, v = .slice A n c := by
  rcases ownsRow_forms h with ⟨rfl, rfl⟩ | ⟨g, cap, rfl⟩
  · exact ⟨_, _, rfl⟩
  · exact ⟨_, _, rfl⟩
theorem own_ne {w : World} {base k : Nat} {e : TypeId} {size n : Nat} {v : Value} {xs : List Value} (h : w.ownsRow base e size v n xs) (hk : k < base) : v.ownBlock ≠ some k := fun e => by
  have := (h.lt k e).1; omega
end Go.Dam
