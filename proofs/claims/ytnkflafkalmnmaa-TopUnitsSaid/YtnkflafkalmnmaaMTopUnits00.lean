/-
  Texts of one claim behind each other. Conditions: none of its own.
-/
import Derived.WalkKit
import Derived.ProofKit
import Derived.OpenShut
import Derived.ShutString
import Derived.ChangeOld
import Derived.Below
import Derived.Laws.OwnMore
import Derived.Deep.AppendLies
import Derived.Deep.Draws
import Derived.Laws.Rows
import Derived.Deep.Slices
import Derived.Deep.Fields
import Derived.Lib.SmallJoins
import Derived.Lib.Hide
import Derived.SizedLaws
import Derived.Laws.BitsAllLaws
import Derived.Laws.BitsLemmas
import Derived.IntWalk
import Derived.Deep.RegionLaw
/-
  Helper lemmas for all claims of this seat: how an argument that can be read as data lies in memory (a slice that reads as a list, a struct of plain fields), and how that reading is kept while the call makes blocks of its own. Conditions: none; nothing here names the program.
-/
namespace Go.Dam
open Go Go.RowKit Go.ChangeShapes Go.WideShapes Go.Joins Go.Deep
set_option linter.unusedVariables false

theorem block_of_add (a : Addr) (n : Nat) : (a.add n).block = a.block := by unfold Addr.add; split <;> rfl
theorem add_of_add (a : Addr) (i j : Nat) : (a.add i).add j = a.add (i + j) := by
  unfold Addr.add
  by_cases hi : i = 0 <;> by_cases hj : j = 0 <;> simp [hi, hj, Nat.add_assoc]

/-- The slice value with address A and n elements of 'size' cells each reads as the cells xs, and lies below block B. -/
def Reads (w : World) (B size : Nat) (A : Option Addr) (n : Nat) (xs : List Value) : Prop :=
  xs.length = n * size ∧ (0 < n → ∃ ad, A = some ad ∧ ad.block < B ∧ ∀ j u, xs[j]? = some u → w.cell? (ad.add j) = some u)

section
variable {w w' : World} {B B' size n : Nat} {A : Option Addr} {xs : List Value}
theorem Reads.none_ : Reads w B size A 0 [] := ⟨by simp, fun h => absurd h (by omega)⟩
theorem Reads.at_ {k : Nat} (h : Reads w B 1 A n xs) (hk : k < n) : ∃ ad u, A = some ad ∧ ad.block < B ∧ xs[k]? = some u ∧ w.cell? (ad.add k) = some u := by
  obtain ⟨ad, e, hb, hc⟩ := h.2 (by omega)
  have hl : k < xs.length := by have := h.1; omega
  exact ⟨ad, xs[k], e, hb, List.getElem?_eq_getElem hl, hc k _ (List.getElem?_eq_getElem hl)⟩
theorem cell_spot {w : World} {a : Addr} {v : Value} (h : w.cell? a = some v) : a.spot = none := by
  unfold World.cell? at h
  split at h
  · split at h
    · cases h
    · rename_i hs; simpa using hs
  · cases h
theorem Reads.addr (h : Reads w B 1 A n xs) (hn : 0 < n) : ∃ b off, A = some ⟨b, off, none⟩ ∧ b < B ∧ ∀ k, k < n → ∃ u, xs[k]? = some u ∧ w.cell? ⟨b, off + k, none⟩ = some u := by
  obtain ⟨ad, e, hb, hc⟩ := h.2 hn
  obtain ⟨b, off, sp⟩ := ad
  have key : ∀ k, k < n → ∃ u, xs[k]? = some u ∧ w.cell? ((⟨b, off, sp⟩ : Addr).add k) = some u := by
    intro k hk
    have hl : k < xs.length := by have := h.1; omega
    exact ⟨xs[k], List.getElem?_eq_getElem hl, hc k _ (List.getElem?_eq_getElem hl)⟩
  obtain ⟨u0, _, hu0⟩ := key 0 hn
  have hsp : sp = none := by simpa [Addr.add] using cell_spot hu0
  subst hsp
  refine ⟨b, off, e, hb, fun k hk => ?_⟩
  obtain ⟨u, hx, hu⟩ := key k hk
  refine ⟨u, hx, ?_⟩
  unfold Addr.add at hu
  split at hu
  · rename_i h0; subst h0; exact hu
  · exact hu
theorem Reads.keep (h : Reads w B size A n xs) (hk : ∀ p : Addr, p.block < B → w'.cell? p = w.cell? p) : Reads w' B size A n xs :=
  ⟨h.1, fun hn => by
    obtain ⟨ad, e, hb, hc⟩ := h.2 hn
    exact ⟨ad, e, hb, fun j u hu => (hk _ (by rw [block_of_add]; exact hb)).trans (hc j u hu)⟩⟩
theorem Reads.more (h : Reads w B size A n xs) (hB : B ≤ B') : Reads w B' size A n xs :=
  ⟨h.1, fun hn => by
    obtain ⟨ad, e, hb, hc⟩ := h.2 hn
    exact ⟨ad, e, by omega, hc⟩⟩
theorem Reads.below (h : Reads w B size A n xs) (hb : Below B w w') : Reads w' B size A n xs := h.keep fun _ hp => hb.cell hp
theorem Reads.drew (h : Reads w B size A n xs) : Reads w.drew B size A n xs := h
theorem Reads.drewN (h : Reads w B size A n xs) (k : Nat) : Reads (w.drewN k) B size A n xs := h
theorem Reads.alloc (h : Reads w B size A n xs) (hB : B ≤ w.heap.size) (o : Obj) : Reads (w.alloc o) B size A n xs := h.keep fun p hp => World.cell?_alloc_lt w o p (by omega)
theorem Reads.setCell (h : Reads w B size A n xs) {p : Addr} (hB : B ≤ p.block) (u : Value) : Reads (w.setCell p u) B size A n xs :=
  h.keep fun q hq => World.cell?_setCell_other w p q u (fun e => by subst e; omega)
theorem Reads.grown (h : Reads w B size A n xs) {row : Option Nat} (hg : w.grownBy w' row) (hB : B ≤ w.heap.size) (hr : ∀ g, row = some g → B ≤ g) : Reads w' B size A n xs :=
  h.keep fun p hp => World.cell?_of_block (hg.block p.block (by omega) (fun e => by have := hr _ e.symm; omega))
theorem Reads.cut (h : Reads w B size A n xs) {k cap : Nat} (hk : k ≤ n) (hc : n ≤ cap) :
    Reads w B size (if cap = k then A else A.map (·.add (k * size))) (n - k) (xs.drop (k * size)) := by
  refine ⟨by rw [List.length_drop, h.1, Nat.sub_mul], fun hn => ?_⟩
  obtain ⟨ad, rfl, hb, hcell⟩ := h.2 (by omega)
  rw [if_neg (by omega)]
  refine ⟨ad.add (k * size), rfl, by rw [block_of_add]; exact hb, fun j u hu => ?_⟩
  rw [add_of_add]
  exact hcell _ u (by rw [← hu, List.getElem?_drop])
theorem Reads.take (h : Reads w B size A n xs) {k : Nat} (hk : k ≤ n) : Reads w B size A k (xs.take (k * size)) := by
  refine ⟨by rw [List.length_take, h.1]; exact Nat.min_eq_left (Nat.mul_le_mul_right _ hk), fun hn => ?_⟩
  obtain ⟨ad, rfl, hb, hcell⟩ := h.2 (by omega)
  refine ⟨ad, rfl, hb, fun j u hu => ?_⟩
  rw [List.getElem?_take] at hu
  split at hu
  · exact hcell _ u hu
  · cases hu
theorem Reads.of_own {base : Nat} {e : TypeId} {c : Nat} (h : w.ownsRow base e size (.slice A n c) n xs) : Reads w w.heap.size size A n xs := by
  refine ⟨h.1, fun hn => ?_⟩
  obtain ⟨g, cap, hv, _, hlt⟩ := h.form hn
  have hA : A = some ⟨g, 0, none⟩ := by injection hv
  subst hA
  exact ⟨_, rfl, hlt, h.cells (g := g) rfl⟩
end

/-- Block g is just the cells cs of element type t, none frozen. -/
def Blk (w : World) (g : Nat) (t : TypeId) (cs : Array Value) : Prop := w.heap[g]? = some (.cells cs t (0, 0))
section
variable {w w' : World} {g : Nat} {t : TypeId} {cs : Array Value}
theorem Blk.lt (h : Blk w g t cs) : g < w.heap.size := by
  rcases Nat.lt_or_ge g w.heap.size with hlt | hge
  · exact hlt
  · unfold Blk at h; rw [Array.getElem?_eq_none hge] at h; cases h
theorem Blk.cell (h : Blk w g t cs) (i : Nat) : w.cell? ⟨g, i, none⟩ = cs[i]? := cell_of_row w g i cs t (0, 0) h
theorem Blk.frozen (h : Blk w g t cs) (i : Nat) : w.frozen? ⟨g, i, none⟩ = false := by
  unfold Blk at h
  simp [World.frozen?, h]
theorem Blk.new (w : World) (t : TypeId) (cs : Array Value) : Blk (w.alloc (.cells cs t)) w.heap.size t cs := heap_alloc_new w _
theorem Blk.new_at (w : World) (t : TypeId) (cs : Array Value) (g : Nat) (hg : g = w.heap.size) : Blk (w.alloc (.cells cs t)) g t cs := by subst hg; exact Blk.new w t cs
theorem Blk.drew (h : Blk w g t cs) : Blk w.drew g t cs := h
theorem Blk.drewN (h : Blk w g t cs) (n : Nat) : Blk (w.drewN n) g t cs := h
theorem Blk.alloc (h : Blk w g t cs) (o : Obj) : Blk (w.alloc o) g t cs := (Below.heap_alloc w o g h.lt).trans h
theorem Blk.set_ (h : Blk w g t cs) (i : Nat) (u : Value) : Blk (w.setCell ⟨g, i, none⟩ u) g t (cs.setIfInBounds i u) := by
  unfold Blk at h ⊢
  simp [World.setCell, Array.getElem?_modify, h]
theorem Blk.far (h : Blk w g t cs) {p : Addr} (hp : g ≠ p.block) (u : Value) : Blk (w.setCell p u) g t cs := (Below.heap_setCell w p u g hp).trans h
theorem Blk.below {B : Nat} (h : Blk w g t cs) (hb : Below B w w') (hg : g < B) : Blk w' g t cs := (hb.block g hg).trans h
theorem Blk.grown {row : Option Nat} (h : Blk w g t cs) (hb : w.grownBy w' row) (hg : some g ≠ row) : Blk w' g t cs := (hb.block g h.lt hg).trans h
theorem Blk.ne_ {g' : Nat} {t' : TypeId} {cs' : Array Value} (h : Blk w g t cs) (h' : Blk w g' t' cs') (hne : t ≠ t') : g ≠ g' := by
  rintro rfl
  unfold Blk at h h'
  rw [h] at h'
  injection h' with h'
  injection h' with _ ht
  exact hne ht
end

/-! ### From a datum's reading to 'Reads' -/
section
variable {H : Type} {enc : TypeId × Value → H} {P : Program} {w : World} {base : Nat} {spare : Nat → Bool} {held : Bool}

theorem cell_lt {w : World} {a : Addr} {v : Value} (h : w.cell? a = some v) : a.block < w.heap.size := by
  unfold World.cell? at h
  rcases Nat.lt_or_ge a.block w.heap.size with hlt | hge
  · exact hlt
  · rw [Array.getElem?_eq_none hge] at h; cases h

/-- No part of the datum is longer than the form's reach. -/
def Sized (P : Program) (t : TypeId) (d : DataW H) : Prop := ∀ n ∈ d.weights P t, n ≤ reachBytes
theorem weightsAll_mem {e : TypeId} {d : DataW H} {n : Nat} : ∀ {l : List (DataW H)}, d ∈ l → n ∈ d.weights P e → n ∈ DataW.weightsAll P e l
  | x :: l, hd, hn => by
    simp only [DataW.weightsAll, List.mem_append]
    rcases List.mem_cons.1 hd with rfl | hd
    · exact Or.inl hn
    · exact Or.inr (weightsAll_mem hd hn)
theorem Sized.field {t : TypeId} {fs : Array Field} {parts : List (DataW H)} (ht : P.underlying t = some (.struct fs)) (hz : Sized P t (.agg parts)) {j : Nat} {f : Field} {d : DataW H} (hf : fs[j]? = some f) (hd : parts[j]? = some d) : Sized P f.type d := by
  intro n hn
  refine hz n ?_
  simp only [DataW.weights, ht]
  exact DataW.weights_mem_each (by simpa using ⟨f, hf, rfl⟩) hd n hn
theorem sized_arg {ts : List TypeId} {ds : List (DataW H)} (h : (DataW.weightsEach P ts ds).all (· ≤ reachBytes) = true) {j : Nat} {t : TypeId} {d : DataW H} (ht : ts[j]? = some t) (hd : ds[j]? = some d) : Sized P t d := by
  intro n hn
  have := List.all_eq_true.1 h n (DataW.weights_mem_each ht hd n hn)
  simpa using this

/-- Whatever slice can be read as data: 'Reads', and each element's cells read as data of the element's type. -/
theorem open_reads {t e : TypeId} {s fuel : Nat} {cs : List Value} {x : DataW H × List MemPlace} (ht : P.underlying t = some (.slice e)) (hs : P.cellsOf e = s) (hs0 : 0 < s)
    (h : DataW.trod enc P w base spare held fuel t cs = some x) (hz : Sized P t x.1) :
    ∃ A n c vs, cs = [.slice A n c] ∧ n ≤ c ∧ c ≤ maxLen ∧ n * P.bytesOf e ≤ reachBytes ∧ Reads w w.heap.size s A n vs ∧
      ∀ i, i < n → ∃ f y, DataW.trod enc P w base spare held f e ((vs.drop (i * s)).take s) = some y ∧ Sized P e y.1 := by
  rcases open_slice ht h with ⟨rfl, rfl⟩ | ⟨a, len, cap, m, n, D, Pl, rfl, hb, hl, hm, hmm, hx, hi⟩
  · exact ⟨none, 0, 0, [], rfl, Nat.le_refl _, Nat.zero_le _, by simp, Reads.none_, fun i hi => absurd hi (by omega)⟩
  · have hz1 : len * P.bytesOf e ≤ reachBytes := by
      have h1 := hz ((((List.range len).map D).length + ((List.range (m - len)).map fun j => D (len + j)).length) * P.bytesOf e) (by rw [hx]; simp [DataW.weights, ht])
      refine Nat.le_trans (Nat.mul_le_mul_right _ ?_) h1
      simp
    have hz2 : ∀ i, i < len → Sized P e (D i) := by
      intro i hil n hn
      refine hz n ?_
      rw [hx]
      simp only [DataW.weights, ht, List.mem_cons, List.mem_append]
      exact Or.inr (Or.inl (weightsAll_mem (List.mem_map.2 ⟨i, List.mem_range.2 hil, rfl⟩) hn))
    rw [hs] at hi
    have hlm : len ≤ m := by rw [hmm]; split <;> omega
    let vs := (List.range (len * s)).map fun j => (w.cell? (a.add j)).getD undef
    have hvl : vs.length = len * s := by simp [vs]
    have key : ∀ i, i < len → ∃ cs', cs'.length = s ∧ (∀ j, j < s → w.cell? (a.add (i * s + j)) = cs'[j]?) ∧ DataW.trod enc P w base spare held n e cs' = some (D i, Pl i) := by
      intro i hil
      obtain ⟨cs', hc, ht'⟩ := hi i (by omega)
      obtain ⟨_, hcl, hat⟩ := World.cells?_some hc
      exact ⟨cs', hcl, fun j hj => by rw [← add_of_add]; exact hat j hj, ht'⟩
    have hcell : ∀ j, j < len * s → ∃ u, w.cell? (a.add j) = some u := by
      intro j hj
      have hq : j / s < len := by rw [Nat.div_lt_iff_lt_mul hs0]; exact hj
      have hr : j % s < s := Nat.mod_lt _ hs0
      obtain ⟨cs', hcl, hat, _⟩ := key (j / s) hq
      have := hat (j % s) hr
      rw [show j / s * s + j % s = j from by rw [Nat.mul_comm]; exact Nat.div_add_mod j s] at this
      exact ⟨cs'[j % s]'(by omega), by rw [this]; exact List.getElem?_eq_getElem (by omega)⟩
    have hvs : ∀ j, j < len * s → w.cell? (a.add j) = vs[j]? := by
      intro j hj
      obtain ⟨u, hu⟩ := hcell j hj
      simp [vs, hj, hu]
    refine ⟨some a, len, cap, vs, rfl, hl, hm, hz1, ⟨hvl, fun hn => ⟨a, rfl, ?_, fun j u hu => ?_⟩⟩, fun i hil => ⟨n, (D i, Pl i), ?_, hz2 i hil⟩⟩
    · obtain ⟨u, hu⟩ := hcell 0 (Nat.mul_pos hn hs0)
      have := cell_lt hu
      rwa [block_of_add] at this
    · have hj : j < len * s := by
        rw [← hvl]
        rcases Nat.lt_or_ge j vs.length with h | h
        · exact h
        · rw [List.getElem?_eq_none h] at hu; cases hu
      rw [hvs j hj, hu]
    · obtain ⟨cs', hcl, hat, ht'⟩ := key i hil
      rw [← ht']
      congr 1
      have hle : i * s + s ≤ len * s := by
        have : (i + 1) * s ≤ len * s := Nat.mul_le_mul_right _ (by omega)
        rwa [Nat.succ_mul] at this
      apply List.ext_getElem?
      intro j
      rw [List.getElem?_take, List.getElem?_drop]
      split
      · rename_i hj
        rw [← hvs _ (by omega), hat j hj]
      · rw [List.getElem?_eq_none (by omega)]

/-- A slice of integers. -/
theorem open_list {t e : TypeId} {k : IntKind} {fuel : Nat} {cs : List Value} {x : DataW H × List MemPlace} (ht : P.underlying t = some (.slice e)) (he : P.underlying e = some (.int k)) (hs : P.cellsOf e = 1)
    (h : DataW.trod enc P w base spare held fuel t cs = some x) (hz : Sized P t x.1) :
    ∃ A n c, ∃ l : List Int, cs = [.slice A n c] ∧ n ≤ c ∧ c ≤ maxLen ∧ n * P.bytesOf e ≤ reachBytes ∧ l.length = n ∧ Reads w w.heap.size 1 A n (l.map (Value.int k)) ∧ ∀ z ∈ l, (Lit.int k z).wf = true := by
  obtain ⟨A, n, c, vs, rfl, hc, hm, hby, hr, hi⟩ := open_reads ht hs (by omega) h hz
  have hl : vs.length = n := by have := hr.1; omega
  have key : ∀ i, i < n → ∃ z, vs[i]? = some (.int k z) ∧ (Lit.int k z).wf = true := by
    intro i hin
    obtain ⟨f, y, hy, _⟩ := hi i hin
    obtain ⟨z, hz, _, hw⟩ := DataW.trod_int he hy
    have h0 : ((vs.drop (i * 1)).take 1)[0]? = vs[i]? := by simp
    rw [hz] at h0
    exact ⟨z, h0.symm, hw⟩
  refine ⟨A, n, c, vs.map intOf, rfl, hc, hm, hby, by simpa using hl, ?_, ?_⟩
  · have : (vs.map intOf).map (Value.int k) = vs := by
      apply List.ext_getElem?
      intro j
      rcases Nat.lt_or_ge j n with hj | hj
      · obtain ⟨z, hz, _⟩ := key j hj
        simp [hz, intOf]
      · rw [List.getElem?_eq_none (by simp; omega), List.getElem?_eq_none (by omega)]
    rw [this]; exact hr
  · intro z hz
    obtain ⟨j, hj, rfl⟩ := List.mem_iff_getElem.1 hz
    have hj' : j < vs.length := by simpa using hj
    obtain ⟨z, hz, hw⟩ := key j (by omega)
    rw [List.getElem?_eq_getElem hj'] at hz
    have : vs[j] = .int k z := by injection hz
    simpa [this, intOf] using hw

def boolOf : Value → Bool | .bool b => b | _ => false
/-- A slice of bools. -/
theorem open_bools {t e : TypeId} {fuel : Nat} {cs : List Value} {x : DataW H × List MemPlace} (ht : P.underlying t = some (.slice e)) (he : P.underlying e = some .bool) (hs : P.cellsOf e = 1)
    (h : DataW.trod enc P w base spare held fuel t cs = some x) (hz : Sized P t x.1) :
    ∃ A n c, ∃ l : List Bool, cs = [.slice A n c] ∧ n ≤ c ∧ c ≤ maxLen ∧ n * P.bytesOf e ≤ reachBytes ∧ l.length = n ∧ Reads w w.heap.size 1 A n (l.map Value.bool) := by
  obtain ⟨A, n, c, vs, rfl, hc, hm, hby, hr, hi⟩ := open_reads ht hs (by omega) h hz
  have hl : vs.length = n := by have := hr.1; omega
  refine ⟨A, n, c, vs.map boolOf, rfl, hc, hm, hby, by simpa using hl, ?_⟩
  have : (vs.map boolOf).map Value.bool = vs := by
    apply List.ext_getElem?
    intro j
    rcases Nat.lt_or_ge j n with hj | hj
    · obtain ⟨f, y, hy, _⟩ := hi j hj
      obtain ⟨z, hz, _⟩ := DataW.trod_bool he hy
      have h0 : ((vs.drop (j * 1)).take 1)[0]? = vs[j]? := by simp
      rw [hz] at h0
      simp [← h0, boolOf]
    · rw [List.getElem?_eq_none (by simp; omega), List.getElem?_eq_none (by omega)]
  rw [this]; exact hr

theorem wf_u64 {x : Int} (h : (Lit.int .u64 x).wf = true) : ∃ n : Nat, x = n ∧ n < 18446744073709551616 := by
  have hx : 0 ≤ x ∧ x ≤ 18446744073709551615 := by simpa [Lit.wf, IntKind.min, IntKind.max, IntKind.signed, IntKind.bits] using h
  exact ⟨x.toNat, by omega, by omega⟩
theorem wf_i64 {x : Int} (h : (Lit.int .i64 x).wf = true) : -9223372036854775808 ≤ x ∧ x ≤ 9223372036854775807 := by
  simpa [Lit.wf, IntKind.min, IntKind.max, IntKind.signed, IntKind.bits] using h
theorem wf_u8 {x : Int} (h : (Lit.int .u8 x).wf = true) : 0 ≤ x ∧ x ≤ 255 := by
  simpa [Lit.wf, IntKind.min, IntKind.max, IntKind.signed, IntKind.bits] using h

/-! ### What a walk is told of an argument -/
def IsInts (k : IntKind) (w : World) (B : Nat) (v : Value) (l : List Int) : Prop :=
  ∃ A c, v = .slice A l.length c ∧ l.length ≤ c ∧ c ≤ maxLen ∧ l.length ≤ 140737488351232 ∧ Reads w B 1 A l.length (l.map (Value.int k)) ∧ ∀ z ∈ l, (Lit.int k z).wf = true
def IsBools (w : World) (B : Nat) (v : Value) (l : List Bool) : Prop :=
  ∃ A c, v = .slice A l.length c ∧ l.length ≤ c ∧ c ≤ maxLen ∧ l.length ≤ 140737488351232 ∧ Reads w B 1 A l.length (l.map Value.bool)
/-- A slice of words, as natural numbers. -/
def wordV (n : Nat) : Value := .int .u64 n
def IsWords (w : World) (B : Nat) (v : Value) (l : List Nat) : Prop :=
  ∃ A c, v = .slice A l.length c ∧ l.length ≤ c ∧ c ≤ maxLen ∧ l.length ≤ 140737488351232 ∧ Reads w B 1 A l.length (l.map wordV) ∧ ∀ z ∈ l, z < 18446744073709551616
def I64 (x : Int) : Prop := -9223372036854775808 ≤ x ∧ x ≤ 9223372036854775807
def IsBits (w : World) (B : Nat) (v : Value) (n : Int) (l : List Nat) : Prop :=
  ∃ s, v = .agg #[.int .i64 n, s] ∧ I64 n ∧ IsWords w B s l
def IsPacked (w : World) (B : Nat) (v : Value) (n m : Int) (l : List Nat) : Prop :=
  ∃ s, v = .agg #[.int .i64 n, .int .i64 m, s] ∧ I64 n ∧ I64 m ∧ IsWords w B s l

variable {r : Reach} {b0 : Nat} {t e : TypeId} {v : Value} {d : DataW H} {ps : List MemPlace}
theorem arg_u64 (ht : P.underlying t = some (.int .u64)) (hv : Value.okWide P w r b0 t v) (h : DataW.Trod enc P w base spare held t v d ps) (hz : Sized P t d) : ∃ n : Nat, v = .int .u64 n ∧ n < 18446744073709551616 := by
  obtain ⟨x, rfl, _, _, hw⟩ := open_int ht hv h
  obtain ⟨n, rfl, hn⟩ := wf_u64 hw
  exact ⟨n, rfl, hn⟩
theorem arg_i64 (ht : P.underlying t = some (.int .i64)) (hv : Value.okWide P w r b0 t v) (h : DataW.Trod enc P w base spare held t v d ps) (hz : Sized P t d) : ∃ x : Int, v = .int .i64 x ∧ I64 x := by
  obtain ⟨x, rfl, _, _, hw⟩ := open_int ht hv h
  exact ⟨x, rfl, wf_i64 hw⟩
theorem arg_bool (ht : P.underlying t = some .bool) (hv : Value.okWide P w r b0 t v) (h : DataW.Trod enc P w base spare held t v d ps) (hz : Sized P t d) : ∃ x : Bool, v = .bool x := by
  obtain ⟨x, rfl, _, _⟩ := open_bool ht hv h
  exact ⟨x, rfl⟩
theorem arg_string (ht : P.underlying t = some .string) (hv : Value.okWide P w r b0 t v) (h : DataW.Trod enc P w base spare held t v d ps) (hz : Sized P t d) : ∃ s : ByteArray, v = .string s ∧ s.size ≤ 140737488351232 := by
  obtain ⟨x, rfl, rfl, _, hs⟩ := Go.ChangeMaps.open_string ht hv h
  have := hz x.data.toList.length (by simp [DataW.weights])
  exact ⟨x, rfl, by simpa [reachBytes] using this⟩
theorem ints_of {k : IntKind} {fuel : Nat} {x : DataW H × List MemPlace} (ht : P.underlying t = some (.slice e)) (he : P.underlying e = some (.int k)) (hs : P.cellsOf e = 1) (hby : 1 ≤ P.bytesOf e)
    (h : DataW.trod enc P w base spare held fuel t [v] = some x) (hz : Sized P t x.1) : ∃ l, IsInts k w w.heap.size v l := by
  obtain ⟨A, n, c, l, hcs, hc, hm, hb, rfl, hr, hw⟩ := open_list ht he hs h hz
  simp only [List.cons.injEq, and_true] at hcs
  have : l.length * 1 ≤ l.length * P.bytesOf e := Nat.mul_le_mul_left _ hby
  have hr2 : reachBytes = 140737488351232 := rfl
  exact ⟨l, A, c, hcs, hc, hm, by omega, hr, hw⟩
theorem arg_ints {k : IntKind} (ht : P.underlying t = some (.slice e)) (he : P.underlying e = some (.int k)) (hs : P.cellsOf e = 1) (hby : 1 ≤ P.bytesOf e) (hv : Value.okWide P w r b0 t v) (h : DataW.Trod enc P w base spare held t v d ps) (hz : Sized P t d) :
    ∃ l, IsInts k w w.heap.size v l := by
  obtain ⟨a, len, cap, rfl⟩ := okWide_slice ht hv
  obtain ⟨fuel, hf⟩ := h
  exact ints_of ht he hs hby hf hz
theorem words_of_ints {B : Nat} {l : List Int} (h : IsInts .u64 w B v l) : ∃ ws, IsWords w B v ws := by
  obtain ⟨A, c, rfl, hc, hm, hb, hr, hw⟩ := h
  refine ⟨l.map Int.toNat, A, c, by simp, by simpa using hc, hm, by simpa using hb, ?_, ?_⟩
  · have : (l.map Int.toNat).map wordV = l.map (Value.int .u64) := by
      rw [List.map_map]
      refine List.map_congr_left fun z hz => ?_
      obtain ⟨n, rfl, _⟩ := wf_u64 (hw z hz)
      rfl
    rw [this, List.length_map]; exact hr
  · intro z hz
    obtain ⟨y, hy, rfl⟩ := List.mem_map.1 hz
    obtain ⟨n, rfl, hn⟩ := wf_u64 (hw y hy)
    simpa using hn
theorem arg_words (ht : P.underlying t = some (.slice e)) (he : P.underlying e = some (.int .u64)) (hs : P.cellsOf e = 1) (hby : 1 ≤ P.bytesOf e) (hv : Value.okWide P w r b0 t v) (h : DataW.Trod enc P w base spare held t v d ps) (hz : Sized P t d) :
    ∃ l, IsWords w w.heap.size v l := by
  obtain ⟨l, hl⟩ := arg_ints ht he hs hby hv h hz
  exact words_of_ints hl
theorem arg_bools (ht : P.underlying t = some (.slice e)) (he : P.underlying e = some .bool) (hs : P.cellsOf e = 1) (hby : 1 ≤ P.bytesOf e) (hv : Value.okWide P w r b0 t v) (h : DataW.Trod enc P w base spare held t v d ps) (hz : Sized P t d) :
    ∃ l, IsBools w w.heap.size v l := by
  obtain ⟨a, len, cap, rfl⟩ := okWide_slice ht hv
  obtain ⟨fuel, hf⟩ := h
  obtain ⟨A, n, c, l, hcs, hc, hm, hb, rfl, hr⟩ := open_bools ht he hs hf hz
  simp only [Value.cells, List.cons.injEq, and_true] at hcs
  have : l.length * 1 ≤ l.length * P.bytesOf e := Nat.mul_le_mul_left _ hby
  have hr2 : reachBytes = 140737488351232 := rfl
  exact ⟨l, A, c, hcs, hc, hm, by omega, hr⟩
theorem arg_bits {f0 f1 : Field} {u : TypeId} (ht : P.underlying t = some (.struct #[f0, f1])) (h0 : P.underlying f0.type = some (.int .i64)) (h1 : P.underlying f1.type = some (.slice u)) (hu : P.underlying u = some (.int .u64)) (hs : P.cellsOf u = 1) (hby : 1 ≤ P.bytesOf u)
    (hone : oneCellFields P #[f0, f1] = true) (hC : P.cellsOf t = 2) (hv : Value.okWide P w r b0 t v) (h : DataW.Trod enc P w base spare held t v d ps) (hz : Sized P t d) :
    ∃ n l, IsBits w w.heap.size v n l := by
  obtain ⟨v0, v1, y0, y1, n, rfl, rfl, _, t0, t1⟩ := open_agg2 ht hone hC hv h
  obtain ⟨x, hx, _, hw⟩ := DataW.trod_int h0 t0
  simp only [List.cons.injEq, and_true] at hx
  subst hx
  obtain ⟨l, hl⟩ := ints_of h1 hu hs hby t1 (hz.field ht (j := 1) rfl rfl)
  obtain ⟨ws, hws⟩ := words_of_ints hl
  exact ⟨x, ws, v1, rfl, wf_i64 hw, hws⟩
theorem arg_packed {f0 f1 f2 : Field} {u : TypeId} (ht : P.underlying t = some (.struct #[f0, f1, f2])) (h0 : P.underlying f0.type = some (.int .i64)) (h0' : P.underlying f1.type = some (.int .i64)) (h1 : P.underlying f2.type = some (.slice u)) (hu : P.underlying u = some (.int .u64)) (hs : P.cellsOf u = 1) (hby : 1 ≤ P.bytesOf u)
    (hone : oneCellFields P #[f0, f1, f2] = true) (hC : P.cellsOf t = 3) (hv : Value.okWide P w r b0 t v) (h : DataW.Trod enc P w base spare held t v d ps) (hz : Sized P t d) :
    ∃ n m l, IsPacked w w.heap.size v n m l := by
  obtain ⟨v0, v1, v2, y0, y1, y2, n, rfl, rfl, _, t0, t1, t2⟩ := open_agg3 ht hone hC hv h
  obtain ⟨x, hx, _, hw⟩ := DataW.trod_int h0 t0
  simp only [List.cons.injEq, and_true] at hx
  subst hx
  obtain ⟨z, hz', _, hw'⟩ := DataW.trod_int h0' t1
  simp only [List.cons.injEq, and_true] at hz'
  subst hz'
  obtain ⟨l, hl⟩ := ints_of h1 hu hs hby t2 (hz.field ht (j := 2) rfl rfl)
  obtain ⟨ws, hws⟩ := words_of_ints hl
  exact ⟨x, z, ws, v2, rfl, wf_i64 hw, wf_i64 hw', hws⟩
end
section
variable {k : IntKind} {w w' : World} {B B' : Nat} {v : Value} {l : List Int} {ws : List Nat} {lb : List Bool}
theorem IsInts.below (h : IsInts k w B v l) (hb : Below B w w') : IsInts k w' B v l := by
  obtain ⟨A, c, rfl, h1, h2, h5, h3, h4⟩ := h
  exact ⟨A, c, rfl, h1, h2, h5, h3.below hb, h4⟩
theorem IsWords.below (h : IsWords w B v ws) (hb : Below B w w') : IsWords w' B v ws := by
  obtain ⟨A, c, rfl, h1, h2, h5, h3, h4⟩ := h
  exact ⟨A, c, rfl, h1, h2, h5, h3.below hb, h4⟩
theorem IsBools.below (h : IsBools w B v lb) (hb : Below B w w') : IsBools w' B v lb := by
  obtain ⟨A, c, rfl, h1, h2, h5, h3⟩ := h
  exact ⟨A, c, rfl, h1, h2, h5, h3.below hb⟩
theorem IsInts.more (h : IsInts k w B v l) (hB : B ≤ B') : IsInts k w B' v l := by
  obtain ⟨A, c, rfl, h1, h2, h5, h3, h4⟩ := h
  exact ⟨A, c, rfl, h1, h2, h5, h3.more hB, h4⟩
theorem IsWords.more (h : IsWords w B v ws) (hB : B ≤ B') : IsWords w B' v ws := by
  obtain ⟨A, c, rfl, h1, h2, h5, h3, h4⟩ := h
  exact ⟨A, c, rfl, h1, h2, h5, h3.more hB, h4⟩
theorem IsBits.below {n : Int} (h : IsBits w B v n ws) (hb : Below B w w') : IsBits w' B v n ws := by
  obtain ⟨s, rfl, h1, h2⟩ := h
  exact ⟨s, rfl, h1, h2.below hb⟩
theorem IsBits.more {n : Int} (h : IsBits w B v n ws) (hB : B ≤ B') : IsBits w B' v n ws := by
  obtain ⟨s, rfl, h1, h2⟩ := h
  exact ⟨s, rfl, h1, h2.more hB⟩
theorem IsPacked.below {n m : Int} (h : IsPacked w B v n m ws) (hb : Below B w w') : IsPacked w' B v n m ws := by
  obtain ⟨s, rfl, h1, h1', h2⟩ := h
  exact ⟨s, rfl, h1, h1', h2.below hb⟩
end

/-! ### append of one element onto a row of the call's own -/
/-- What the program's tables say of a slice type T and its element type E. -/
structure El (P : Program) (T E : TypeId) (z : Value) (size bytes : Nat) : Prop where
  ht : P.underlying T = some (.slice E)
  hi : (P.info? E).map (fun i => (i.zero, i.size, i.bytes)) = some (some z, size, bytes)
  hz : z.cells.size = size
  hs : 0 < size
section
variable {P : Program} {w : World}
theorem El.info {T E : TypeId} {z : Value} {size bytes : Nat} (h : El P T E z size bytes) : ∃ i, P.info? E = some i ∧ i.zero = some z ∧ i.size = size ∧ i.bytes = bytes := by
  have := h.hi
  cases hi : P.info? E with
  | none => rw [hi] at this; simp at this
  | some i =>
    rw [hi] at this
    simp at this
    exact ⟨i, rfl, this.1, this.2.1, this.2.2⟩
/-- append(s, x), x one element of one cell: it lies in the new block g. -/
theorem wpList_push {T E : TypeId} {z : Value} {bytes : Nat} (el : El P T E z 1 bytes) {ops : Array Oper} {rest : List Oper} {o : Oper} {a : Act} {Q : Exit → Act → World → Prop} (hgd : o.guard = none) (s x : Operand)
    (ho : o.op = .call { callee := .builtin .append, args := #[s, x], argTypes := #[T, T] })
    (base : Nat) (v : Value) (n : Nat) (xs : List Value) (hown : w.ownsRow base E 1 v n xs) (hs : a.eval s = v)
    (g c : Nat) (u : Value) (hx : a.eval x = .slice (some ⟨g, 0, none⟩) 1 c) (hu : w.cell? ⟨g, 0, none⟩ = some u) (h1 : u.oneCell' = true)
    (h63 : n + 1 ≤ 140737488355328) (hbytes : (n + 1) * bytes ≤ 140737488355328) (hbase : base ≤ w.heap.size)
    (h : ∀ v' w', w'.ownsRow base E 1 v' (n + 1) (xs ++ [u]) → w.grownBy w' v.ownBlock → wpList P ops Q rest (a.put o.dst v') w') : wpList P ops Q (o :: rest) a w := by
  obtain ⟨i, hi, hz, hz1, hz2⟩ := el.info
  refine wpList_append_own w hgd s x T ho base E i z 1 bytes el.ht hi hz hz1 hz2 el.hz (by omega) v n xs hs hown ⟨g, 0, none⟩ 1 c [u] hx rfl ?_ ?_ (by unfold maxLen; omega) hbytes hbase fun v' w' h2 h3 _ => h v' w' h2 h3
  · intro j y hj
    cases j with
    | zero => simp at hj; subst hj; exact hu
    | succ j => simp at hj
  · intro y hy
    simp at hy; subst hy; exact h1
/-- What is kept below B over such an append. -/
theorem below_push {B : Nat} {w0 w w' : World} {base : Nat} {E : TypeId} {size n : Nat} {v : Value} {xs : List Value} (hb : Below B w0 w) (hown : w.ownsRow base E size v n xs) (hB : B ≤ base) (hz : B ≤ w.heap.size) (hg : w.grownBy w' v.ownBlock) : Below B w0 w' :=
  hb.grown hg hz fun k hk => Nat.le_trans hB (hown.lt k hk).1
theorem own_bools {base E n : Nat} {v : Value} {l : List Bool} (h : w.ownsRow base E 1 v n (l.map Value.bool)) (hn : l.length ≤ 140737488351232) : IsBools w w.heap.size v l := by
  have hl : l.length = n := by have := h.1; simpa using this
  subst hl
  rcases h.2 with ⟨rfl, h0⟩ | ⟨g, cap, cur, rfl, _, _, hnc, hcm, _⟩
  · exact ⟨none, 0, by rw [h0], by omega, by omega, hn, h.1, fun hp => absurd hp (by omega)⟩
  · exact ⟨_, cap, rfl, hnc, hcm, hn, Reads.of_own h⟩
theorem own_ints {k : IntKind} {base E n : Nat} {v : Value} {l : List Int} (h : w.ownsRow base E 1 v n (l.map (Value.int k))) (hn : l.length ≤ 140737488351232) (hw : ∀ z ∈ l, (Lit.int k z).wf = true) : IsInts k w w.heap.size v l := by
  have hl : l.length = n := by have := h.1; simpa using this
  subst hl
  rcases h.2 with ⟨rfl, h0⟩ | ⟨g, cap, cur, rfl, _, _, hnc, hcm, _⟩
  · exact ⟨none, 0, by rw [h0], by omega, by omega, hn, ⟨h.1, fun hp => absurd hp (by omega)⟩, hw⟩
  · exact ⟨_, cap, rfl, hnc, hcm, hn, Reads.of_own h, hw⟩
theorem own_words {base E n : Nat} {v : Value} {l : List Nat} (h : w.ownsRow base E 1 v n (l.map wordV)) (hn : l.length ≤ 140737488351232) (hw : ∀ z ∈ l, z < 18446744073709551616) : IsWords w w.heap.size v l := by
  have hl : l.length = n := by have := h.1; simpa using this
  subst hl
  rcases h.2 with ⟨rfl, h0⟩ | ⟨g, cap, cur, rfl, _, _, hnc, hcm, _⟩
  · exact ⟨none, 0, by rw [h0], by omega, by omega, hn, ⟨h.1, fun hp => absurd hp (by omega)⟩, hw⟩
  · exact ⟨_, cap, rfl, hnc, hcm, hn, Reads.of_own h, hw⟩
theorem bools_at {B : Nat} {A : Option Addr} {l : List Bool} (hr : Reads w B 1 A l.length (l.map Value.bool)) (hn : 0 < l.length) :
    ∃ b off, A = some ⟨b, off, none⟩ ∧ b < B ∧ ∀ k, k < l.length → w.cell? ⟨b, off + k, none⟩ = some (.bool (l.getD k false)) := by
  obtain ⟨b, off, e, hb, hc⟩ := hr.addr hn
  refine ⟨b, off, e, hb, fun k hk => ?_⟩
  obtain ⟨u, hx, hu⟩ := hc k hk
  rw [hu, ← hx]
  simp [hk]
theorem ints_cells {k : IntKind} {B : Nat} {A : Option Addr} {l : List Int} (hr : Reads w B 1 A l.length (l.map (Value.int k))) (hn : 0 < l.length) :
    ∃ b off, A = some ⟨b, off, none⟩ ∧ b < B ∧ ∀ j, j < l.length → w.cell? ⟨b, off + j, none⟩ = some (.int k (l.getD j 0)) := by
  obtain ⟨b, off, e, hb, hc⟩ := hr.addr hn
  refine ⟨b, off, e, hb, fun j hj => ?_⟩
  obtain ⟨u, hx, hu⟩ := hc j hj
  rw [hu, ← hx]
  simp [hj]
end

/-! ### make([]T, n) -/
theorem run_make_rowN {P : Program} (t e : TypeId) (i : TypeInfo) (z : Value) (ht : P.underlying t = some (.slice e)) (hi : P.info? e = some i) (hz : i.zero = some z)
    (kl kc : IntKind) (n c : Nat) (hnc : n ≤ c) (hbytes : i.bytes * c ≤ 281474976710656) (h63 : c ≤ 9223372036854775807) (w : World) :
    (Instr.makeSlice t (.int kl (n : Int)) (.int kc (c : Int))).run P w = .ok (.slice (some ⟨w.heap.size, 0, none⟩) n c) (w.alloc (.cells (madeCells z.cells (c * i.size)) e)) := by
  have hb : (i.bytes : Int) * (c : Int) ≤ 281474976710656 := by
    have h : ((i.bytes * c : Nat) : Int) ≤ 281474976710656 := by omega
    rwa [Int.natCast_mul] at h
  have hr := run_make (P := P) w t e i z ht hi hz kl kc n c (by omega) (by omega) hb (by omega)
  simp only [Int.toNat_natCast] at hr
  exact hr
/-- make([]T, n), T one cell: a row of n zeros. -/
theorem run_make1 {P : Program} {T E : TypeId} {z : Value} {bytes : Nat} (el : El P T E z 1 bytes) (h1 : z.cells = #[z]) (x : Int) (n : Nat) (hx : x = n) (hn : bytes * n ≤ 281474976710656) (h63 : n ≤ 9223372036854775807) (w : World) :
    (Instr.makeSlice T (.int .i64 x) (.int .i64 x)).run P w = .ok (.slice (some ⟨w.heap.size, 0, none⟩) n n) (w.alloc (.cells (List.replicate n z).toArray E)) := by
  subst hx
  obtain ⟨i, hi, hz, hz1, hz2⟩ := el.info
  rw [run_make_rowN T E i z el.ht hi hz .i64 .i64 n n (Nat.le_refl _) (by rw [hz2]; exact hn) h63 w, hz1, h1]
  congr 3
  have : madeCells #[z] (n * 1) = (List.replicate n z).toArray := by
    unfold madeCells
    apply Array.ext
    · simp
    · intro j h1 h2
      have : j % 1 = 0 := Nat.mod_one j
      simp [this]
  rw [this]
theorem own_shape {w : World} {base : Nat} {e : TypeId} {size n : Nat} {v : Value} {xs : List Value} (h : w.ownsRow base e size v n xs) : ∃ A c, v = .slice A n c := by
  rcases ownsRow_forms h with ⟨rfl, rfl⟩ | ⟨g, cap, rfl⟩
  · exact ⟨_, _, rfl⟩
  · exact ⟨_, _, rfl⟩
theorem own_ne {w : World} {base k : Nat} {e : TypeId} {size n : Nat} {v : Value} {xs : List Value} (h : w.ownsRow base e size v n xs) (hk : k < base) : v.ownBlock ≠ some k := fun e => by
  have := (h.lt k e).1; omega
end Go.Dam

/-
  Plain laws of rises in a list: the piles of patience, and the length of the longest rise that ends at each place; no program in sight. Conditions: none.
-/
namespace Go.Dam
set_option linter.unusedVariables false
/-- The greatest of L[k], k < m, with f k < x; or 0. -/
def bestTo (f : Nat → Int) (L : List Nat) (x : Int) : Nat → Nat
  | 0 => 0
  | k + 1 => if f k < x ∧ bestTo f L x k < L.getD k 0 then L.getD k 0 else bestTo f L x k
/-- The lengths of the rises that end at the first n places. -/
def lensTo (f : Nat → Int) : Nat → List Nat
  | 0 => []
  | i + 1 => lensTo f i ++ [bestTo f (lensTo f i) (f i) i + 1]
theorem bestTo_0 (f : Nat → Int) (L : List Nat) (x : Int) : bestTo f L x 0 = 0 := rfl
theorem bestTo_yes {f : Nat → Int} {L : List Nat} {x : Int} {k : Nat} (h : f k < x) (g : bestTo f L x k < L.getD k 0) : bestTo f L x (k + 1) = L.getD k 0 := by rw [bestTo, if_pos ⟨h, g⟩]
theorem bestTo_no1 {f : Nat → Int} {L : List Nat} {x : Int} {k : Nat} (h : ¬ f k < x) : bestTo f L x (k + 1) = bestTo f L x k := by rw [bestTo, if_neg (fun e => h e.1)]
theorem bestTo_no2 {f : Nat → Int} {L : List Nat} {x : Int} {k : Nat} (h : ¬ bestTo f L x k < L.getD k 0) : bestTo f L x (k + 1) = bestTo f L x k := by rw [bestTo, if_neg (fun e => h e.2)]
theorem bestTo_ge {f : Nat → Int} {L : List Nat} {x : Int} : ∀ {m k : Nat}, k < m → f k < x → L.getD k 0 ≤ bestTo f L x m
  | m + 1, k, hk, hx => by
    rcases Nat.lt_or_ge k m with h | h
    · have := bestTo_ge (L := L) h hx
      rw [bestTo]; split
      · rename_i g; omega
      · exact this
    · obtain rfl : k = m := by omega
      rw [bestTo]; split
      · exact Nat.le_refl _
      · rename_i g
        have : ¬ bestTo f L x k < L.getD k 0 := fun e => g ⟨hx, e⟩
        omega
theorem bestTo_le {f : Nat → Int} {L : List Nat} {x : Int} {b : Nat} : ∀ {m : Nat}, (∀ k, k < m → f k < x → L.getD k 0 ≤ b) → bestTo f L x m ≤ b
  | 0, _ => Nat.zero_le _
  | m + 1, h => by
    have ih := bestTo_le (m := m) (f := f) (L := L) (x := x) (b := b) fun k hk hx => h k (by omega) hx
    rw [bestTo]; split
    · rename_i g; exact h m (by omega) g.1
    · exact ih
theorem lensTo_0 (f : Nat → Int) : lensTo f 0 = [] := rfl
theorem lensTo_succ (f : Nat → Int) (i : Nat) : lensTo f (i + 1) = lensTo f i ++ [bestTo f (lensTo f i) (f i) i + 1] := rfl
theorem lensTo_length (f : Nat → Int) : ∀ n, (lensTo f n).length = n
  | 0 => rfl
  | n + 1 => by rw [lensTo_succ, List.length_append, lensTo_length f n]; rfl
theorem lensTo_old {f : Nat → Int} {n i : Nat} (h : i < n) : (lensTo f (n + 1)).getD i 0 = (lensTo f n).getD i 0 := by
  rw [lensTo_succ, List.getD_eq_getElem?_getD, List.getElem?_append_left (by rw [lensTo_length]; exact h), ← List.getD_eq_getElem?_getD]
theorem lensTo_new (f : Nat → Int) (n : Nat) : (lensTo f (n + 1)).getD n 0 = bestTo f (lensTo f n) (f n) n + 1 := by
  rw [lensTo_succ, List.getD_eq_getElem?_getD, List.getElem?_append_right (by rw [lensTo_length]; exact Nat.le_refl _), lensTo_length, Nat.sub_self]; rfl
theorem lensTo_le {f : Nat → Int} : ∀ {n i : Nat}, i < n → 1 ≤ (lensTo f n).getD i 0 ∧ (lensTo f n).getD i 0 ≤ i + 1
  | n + 1, i, hi => by
    rcases Nat.lt_or_ge i n with h | h
    · rw [lensTo_old h]; exact lensTo_le h
    · obtain rfl : i = n := by omega
      rw [lensTo_new]
      have : bestTo f (lensTo f i) (f i) i ≤ i := bestTo_le fun k hk _ => by have := (lensTo_le (f := f) hk).2; omega
      omega
attribute [irreducible] bestTo lensTo
/-- A pile's last place. -/
def topP (p : List Nat) : Nat := p.getLastD 0
theorem topP_snoc (p : List Nat) (i : Nat) : topP (p ++ [i]) = i := by simp [topP]
theorem topP_mem {p : List Nat} (h : p ≠ []) : topP p ∈ p := by
  rcases List.eq_nil_or_concat p with rfl | ⟨q, x, rfl⟩
  · exact absurd rfl h
  · simp [topP]
theorem topP_at {p : List Nat} (h : p ≠ []) : p.getD (p.length - 1) 0 = topP p := by
  rcases List.eq_nil_or_concat p with rfl | ⟨q, x, rfl⟩
  · exact absurd rfl h
  · simp [topP]
/-- The piles of the places below i. -/
structure Piles (f : Nat → Int) (i : Nat) (ps : List (List Nat)) : Prop where
  ne : ∀ k, k < ps.length → ps.getD k [] ≠ []
  mem : ∀ k, k < ps.length → ∀ j, j ∈ ps.getD k [] ↔ j < i ∧ (lensTo f i).getD j 0 = k + 1
  len : ∀ j, j < i → (lensTo f i).getD j 0 ≤ ps.length
  asc : ∀ k, k < ps.length → (ps.getD k []).Pairwise fun a b => a < b ∧ f b ≤ f a
  tops : ∀ k k', k < k' → k' < ps.length → f (topP (ps.getD k [])) < f (topP (ps.getD k' []))
  prev : ∀ k, k + 1 < ps.length → ∀ j ∈ ps.getD (k + 1) [], ∃ j' ∈ ps.getD k [], j' < j ∧ f j' < f j ∧ ∀ x ∈ ps.getD k [], x < j → x ≤ j'
theorem Piles.nil (f : Nat → Int) : Piles f 0 [] := ⟨fun k h => absurd h (by simp), fun k h => absurd h (by simp), fun j h => absurd h (by omega), fun k h => absurd h (by simp), fun k k' h1 h2 => absurd h2 (by simp), fun k h => absurd h (by simp)⟩
/-- Where place i goes: the first pile whose top is not below it. -/
def PlaceAt (f : Nat → Int) (i : Nat) (ps : List (List Nat)) (K : Nat) : Prop := K ≤ ps.length ∧ (∀ k, k < K → f (topP (ps.getD k [])) < f i) ∧ (K < ps.length → f i ≤ f (topP (ps.getD K [])))
theorem Piles.top_le {f : Nat → Int} {i : Nat} {ps : List (List Nat)} (h : Piles f i ps) {k : Nat} (hk : k < ps.length) {j : Nat} (hj : j ∈ ps.getD k []) : f (topP (ps.getD k [])) ≤ f j := by
  have ha := h.asc k hk
  generalize ps.getD k [] = p at hj ha
  rcases List.eq_nil_or_concat p with rfl | ⟨q, x, rfl⟩
  · simp at hj
  · rw [List.concat_eq_append] at hj ha ⊢
    rw [topP_snoc]
    rw [List.pairwise_append] at ha
    rcases List.mem_append.1 hj with h1 | h1
    · exact (ha.2.2 j h1 x (by simp)).2
    · simp at h1; rw [h1]; exact Int.le_refl _
/-- The place's length is told by the pile. -/
theorem Piles.at_ {f : Nat → Int} {i : Nat} {ps : List (List Nat)} (h : Piles f i ps) {K : Nat} (hK : PlaceAt f i ps K) : (lensTo f (i + 1)).getD i 0 = K + 1 := by
  rw [lensTo_new]
  have h1 : bestTo f (lensTo f i) (f i) i ≤ K := bestTo_le fun j hj hf => by
    have hb := lensTo_le (f := f) hj
    have hl := h.len j hj
    obtain ⟨k, hk⟩ : ∃ k, (lensTo f i).getD j 0 = k + 1 := ⟨(lensTo f i).getD j 0 - 1, by omega⟩
    have hm := (h.mem k (by omega) j).2 ⟨hj, hk⟩
    have ht := h.top_le (by omega) hm
    rw [hk]
    rcases Nat.lt_or_ge k K with h2 | h2
    · exact h2
    · exfalso
      have h3 := hK.2.2 (by omega)
      rcases Nat.lt_or_ge K k with h4 | h4
      · have := h.tops K k h4 (by omega); omega
      · obtain rfl : k = K := by omega
        omega
  have h2 : K ≤ bestTo f (lensTo f i) (f i) i := by
    rcases Nat.eq_zero_or_pos K with h0 | h0
    · omega
    · have hkl := hK.1
      have hm := topP_mem (h.ne (K - 1) (by omega))
      have hj := (h.mem (K - 1) (by omega) _).1 hm
      have := bestTo_ge (L := lensTo f i) hj.1 (hK.2.1 (K - 1) (by omega))
      omega
  omega
theorem getD_put_same {α : Type} {l : List α} {k : Nat} (h : k < l.length) (x d : α) : (l.set k x).getD k d = x := by simp [h]
theorem getD_put_ne {α : Type} {l : List α} {k j : Nat} (h : k ≠ j) (x d : α) : (l.set k x).getD j d = l.getD j d := by simp [List.getD_eq_getElem?_getD, List.getElem?_set_ne h]
theorem getD_snoc_old {α : Type} {l : List α} {j : Nat} (h : j < l.length) (x d : α) : (l ++ [x]).getD j d = l.getD j d := by
  rw [List.getD_eq_getElem?_getD, List.getElem?_append_left h, ← List.getD_eq_getElem?_getD]
theorem getD_snoc_new {α : Type} {l : List α} (x d : α) : (l ++ [x]).getD l.length d = x := by
  rw [List.getD_eq_getElem?_getD, List.getElem?_append_right (Nat.le_refl _), Nat.sub_self]; rfl
/-- Place i is put on pile K (or on a new one): told by the piles afterwards. -/
theorem Piles.put {f : Nat → Int} {i : Nat} {ps qs : List (List Nat)} (h : Piles f i ps) {K : Nat} (hK : PlaceAt f i ps K) (hl : qs.length = max ps.length (K + 1)) (hq : qs.getD K [] = ps.getD K [] ++ [i]) (ho : ∀ k, k ≠ K → qs.getD k [] = ps.getD k []) : Piles f (i + 1) qs := by
  have hat := h.at_ hK
  have hKl := hK.1
  have mem_lt : ∀ k, k < ps.length → ∀ j ∈ ps.getD k [], j < i := fun k hk j hj => ((h.mem k hk j).1 hj).1
  have hnil : ps.length ≤ K → ps.getD K [] = [] := fun hle => by rw [List.getD_eq_getElem?_getD, List.getElem?_eq_none hle]; rfl
  have hold : ∀ k, k < qs.length → k ≠ K → k < ps.length := fun k hk hne => by omega
  have hfK : ∀ j ∈ ps.getD K [], j < i ∧ f i ≤ f j := fun j hj => by
    rcases Nat.lt_or_ge K ps.length with h1 | h1
    · have := h.top_le h1 hj; have := hK.2.2 h1; exact ⟨mem_lt K h1 j hj, by omega⟩
    · rw [hnil h1] at hj; simp at hj
  refine ⟨fun k hk => ?_, fun k hk j => ?_, fun j hj => ?_, fun k hk => ?_, fun k k' h1 h2 => ?_, fun k hk j hj => ?_⟩
  · by_cases hne : k = K
    · subst hne; rw [hq]; simp
    · rw [ho k hne]; exact h.ne k (hold k hk hne)
  · by_cases hne : k = K
    · subst hne
      rw [hq, List.mem_append, List.mem_singleton]
      constructor
      · rintro (h1 | h1)
        · have hlt := (hfK j h1).1
          rw [lensTo_old hlt]
          have hkp : k < ps.length := by
            rcases Nat.lt_or_ge k ps.length with h2 | h2
            · exact h2
            · rw [hnil h2] at h1; simp at h1
          exact ⟨by omega, ((h.mem k hkp j).1 h1).2⟩
        · subst h1; exact ⟨by omega, hat⟩
      · rintro ⟨h1, h2⟩
        rcases Nat.lt_or_ge j i with h3 | h3
        · rw [lensTo_old h3] at h2
          have := h.len j h3
          exact .inl ((h.mem k (by omega) j).2 ⟨h3, h2⟩)
        · exact .inr (by omega)
    · rw [ho k hne, h.mem k (hold k hk hne)]
      constructor
      · rintro ⟨h1, h2⟩; rw [lensTo_old h1]; exact ⟨by omega, h2⟩
      · rintro ⟨h1, h2⟩
        rcases Nat.lt_or_ge j i with h3 | h3
        · rw [lensTo_old h3] at h2; exact ⟨h3, h2⟩
        · obtain rfl : j = i := by omega
          rw [hat] at h2; omega
  · rcases Nat.lt_or_ge j i with h3 | h3
    · rw [lensTo_old h3]; have := h.len j h3; omega
    · obtain rfl : j = i := by omega
      rw [hat]; omega
  · by_cases hne : k = K
    · subst hne
      rw [hq, List.pairwise_append]
      refine ⟨?_, by simp, fun a ha b hb => ?_⟩
      · rcases Nat.lt_or_ge k ps.length with h1 | h1
        · exact h.asc k h1
        · rw [hnil h1]; exact .nil
      · simp at hb; subst hb; exact hfK a ha
    · rw [ho k hne]; exact h.asc k (hold k hk hne)
  · by_cases hne : k = K
    · subst hne
      have h3 := hold k' h2 (by omega)
      rw [hq, topP_snoc, ho k' (by omega)]
      have := h.tops k k' h1 h3
      have := hK.2.2 (by omega)
      omega
    · by_cases hne' : k' = K
      · subst hne'
        rw [hq, topP_snoc, ho k hne]
        exact hK.2.1 k h1
      · rw [ho k hne, ho k' hne']
        exact h.tops k k' h1 (hold k' h2 hne')
  · by_cases hne' : k + 1 = K
    · subst hne'
      rw [hq] at hj
      rw [ho k (by omega)]
      rcases List.mem_append.1 hj with h1 | h1
      · have hkp : k + 1 < ps.length := by
          rcases Nat.lt_or_ge (k + 1) ps.length with h2 | h2
          · exact h2
          · rw [hnil h2] at h1; simp at h1
        exact h.prev k hkp j h1
      · simp at h1; subst h1
        have hkp : k < ps.length := by omega
        refine ⟨_, topP_mem (h.ne k hkp), mem_lt k hkp _ (topP_mem (h.ne k hkp)), hK.2.1 k (by omega), fun x hx _ => ?_⟩
        have ha := h.asc k hkp
        generalize ps.getD k [] = p at hx ha
        rcases List.eq_nil_or_concat p with rfl | ⟨q, y, rfl⟩
        · simp at hx
        · rw [List.concat_eq_append] at hx ha ⊢
          rw [topP_snoc]
          rw [List.pairwise_append] at ha
          rcases List.mem_append.1 hx with h4 | h4
          · have := (ha.2.2 x h4 y (by simp)).1; omega
          · simp at h4; omega
    · have hkp : k + 1 < ps.length := hold (k + 1) hk hne'
      rw [ho (k + 1) hne'] at hj
      obtain ⟨j', h1, h2, h3, h4⟩ := h.prev k hkp j hj
      by_cases hne : k = K
      · subst hne
        rw [hq]
        refine ⟨j', List.mem_append.2 (.inl h1), h2, h3, fun x hx hxj => ?_⟩
        rcases List.mem_append.1 hx with h5 | h5
        · exact h4 x h5 hxj
        · simp at h5; subst h5
          have := mem_lt (k + 1) hkp j hj; omega
      · rw [ho k hne]; exact ⟨j', h1, h2, h3, h4⟩
end Go.Dam

/-
  Plain arithmetic on words of 64 bits, no program in sight: how many bits are set (by halves, as math/bits counts them), and a word turned round. Conditions: each word is below 2 to the 64th.
-/
namespace Go.Dam
set_option linter.unusedVariables false
open Go

/-- How many of the bits below place i are set. -/
def cnt (n : Nat) : Nat → Nat
  | 0 => 0
  | i + 1 => cnt n i + n / 2 ^ i % 2
theorem cnt_le (n i : Nat) : cnt n i ≤ i := by
  induction i with
  | zero => exact Nat.le_refl _
  | succ i ih => simp only [cnt]; have := Nat.mod_lt (n / 2 ^ i) (by omega : 0 < 2); omega
theorem cnt_mono (n : Nat) {i j : Nat} (h : i ≤ j) : cnt n i ≤ cnt n j := by
  induction j with
  | zero => simp [Nat.le_zero.1 h]
  | succ j ih =>
    rcases Nat.lt_or_ge i (j + 1) with hlt | hge
    · have := ih (by omega); simp only [cnt]; omega
    · rw [Nat.le_antisymm h hge]; exact Nat.le_refl _
theorem div_pow_add (n i j : Nat) : n / 2 ^ (i + j) = n / 2 ^ i / 2 ^ j := by rw [Nat.pow_add, Nat.div_div_eq_div_mul]
theorem cnt_add (n i j : Nat) : cnt n (i + j) = cnt n i + cnt (n / 2 ^ i) j := by
  induction j with
  | zero => simp [cnt]
  | succ j ih =>
    show cnt n (i + j) + n / 2 ^ (i + j) % 2 = _
    rw [ih, div_pow_add]; simp only [cnt]; omega
theorem cnt_mod (n : Nat) {i j : Nat} (h : i ≤ j) : cnt (n % 2 ^ j) i = cnt n i := by
  induction i with
  | zero => rfl
  | succ i ih =>
    simp only [cnt]
    rw [ih (by omega)]
    have : n % 2 ^ j / 2 ^ i % 2 = n / 2 ^ i % 2 := by
      have h1 : (n % 2 ^ j).testBit i = n.testBit i := by rw [Nat.testBit_mod_two_pow]; simp; intro; omega
      simp only [Nat.testBit, Nat.shiftRight_eq_div_pow, Nat.one_and_eq_mod_two] at h1
      have a := Nat.mod_two_eq_zero_or_one (n % 2 ^ j / 2 ^ i)
      have b := Nat.mod_two_eq_zero_or_one (n / 2 ^ i)
      rcases a with a | a <;> rcases b with b | b <;> simp [a, b] at h1 ⊢
    rw [this]
theorem cnt_zero (i : Nat) : cnt 0 i = 0 := by
  induction i with
  | zero => rfl
  | succ i ih => simp [cnt, ih]

/-- '&' part by part. -/
theorem and_parts (k a b c d : Nat) (ha : a < 2 ^ k) (hc : c < 2 ^ k) : (a + 2 ^ k * b) &&& (c + 2 ^ k * d) = (a &&& c) + 2 ^ k * (b &&& d) := by
  have hac : (a &&& c) < 2 ^ k := Nat.and_lt_two_pow _ hc
  apply Nat.eq_of_testBit_eq
  intro i
  rw [Nat.testBit_and, Nat.add_comm a, Nat.add_comm c, Nat.add_comm (a &&& c), Nat.testBit_two_pow_mul_add _ ha, Nat.testBit_two_pow_mul_add _ hc, Nat.testBit_two_pow_mul_add _ hac]
  split <;> simp [Nat.testBit_and]

/-! ### math/bits.OnesCount64's steps -/
def oc1 (n : Nat) : Nat := (n / 2 &&& 6148914691236517205) + (n &&& 6148914691236517205)
def oc2 (n : Nat) : Nat := (n / 4 &&& 3689348814741910323) + (n &&& 3689348814741910323)
def oc3 (n : Nat) : Nat := (n / 16 + n) &&& 1085102592571150095
def oc4 (n : Nat) : Nat := n + n / 256
def oc5 (n : Nat) : Nat := n + n / 65536
def oc6 (n : Nat) : Nat := n + n / 4294967296


def rep (d : Nat) : Nat → Nat
  | 0 => 0
  | m + 1 => d + 256 * rep d m
/-- Each byte is put through f. -/
def bytewise (f : Nat → Nat) : Nat → Nat → Nat
  | 0, _ => 0
  | m + 1, n => f (n % 256) + 256 * bytewise f m (n / 256)
theorem bytewise_comp (f g : Nat → Nat) (hg : ∀ b, b < 256 → g b < 256) (m n : Nat) : bytewise f m (bytewise g m n) = bytewise (fun b => f (g b)) m n := by
  induction m generalizing n with
  | zero => rfl
  | succ m ih =>
    have hb := hg (n % 256) (Nat.mod_lt _ (by omega))
    simp only [bytewise]
    rw [show (g (n % 256) + 256 * bytewise g m (n / 256)) % 256 = g (n % 256) from by omega, show (g (n % 256) + 256 * bytewise g m (n / 256)) / 256 = bytewise g m (n / 256) from by omega, ih]
theorem bytewise_congr {f g : Nat → Nat} (h : ∀ b, b < 256 → f b = g b) (m n : Nat) : bytewise f m n = bytewise g m n := by
  induction m generalizing n with
  | zero => rfl
  | succ m ih => simp only [bytewise]; rw [h _ (Nat.mod_lt _ (by omega)), ih]
theorem low85 : ∀ r < 256, ∀ b < 2, (r / 2 + 128 * b) &&& 85 = r / 2 &&& 85 := by decide +kernel
theorem low51 : ∀ r < 256, ∀ b < 4, (r / 4 + 64 * b) &&& 51 = r / 4 &&& 51 := by decide +kernel
theorem oc1_bytes (m n : Nat) : (n / 2 &&& rep 85 m) + (n &&& rep 85 m) = bytewise (fun b => (b / 2 &&& 85) + (b &&& 85)) m n := by
  induction m generalizing n with
  | zero => simp [rep, bytewise]
  | succ m ih =>
    simp only [rep, bytewise]
    rw [← ih (n / 256)]
    have h1 : n &&& (85 + 256 * rep 85 m) = (n % 256 &&& 85) + 256 * (n / 256 &&& rep 85 m) := by
      have := and_parts 8 (n % 256) (n / 256) 85 (rep 85 m) (Nat.mod_lt _ (by omega)) (by omega)
      rwa [show n % 256 + 2 ^ 8 * (n / 256) = n from by omega] at this
    have h2 : n / 2 &&& (85 + 256 * rep 85 m) = (n % 256 / 2 &&& 85) + 256 * (n / 256 / 2 &&& rep 85 m) := by
      have := and_parts 8 (n % 256 / 2 + 128 * (n / 256 % 2)) (n / 256 / 2) 85 (rep 85 m) (by omega) (by omega)
      rw [low85 _ (Nat.mod_lt _ (by omega)) _ (Nat.mod_lt _ (by omega))] at this
      rwa [show n % 256 / 2 + 128 * (n / 256 % 2) + 2 ^ 8 * (n / 256 / 2) = n / 2 from by omega] at this
    rw [h1, h2]; omega
theorem oc2_bytes (m n : Nat) : (n / 4 &&& rep 51 m) + (n &&& rep 51 m) = bytewise (fun b => (b / 4 &&& 51) + (b &&& 51)) m n := by
  induction m generalizing n with
  | zero => simp [rep, bytewise]
  | succ m ih =>
    simp only [rep, bytewise]
    rw [← ih (n / 256)]
    have h1 : n &&& (51 + 256 * rep 51 m) = (n % 256 &&& 51) + 256 * (n / 256 &&& rep 51 m) := by
      have := and_parts 8 (n % 256) (n / 256) 51 (rep 51 m) (Nat.mod_lt _ (by omega)) (by omega)
      rwa [show n % 256 + 2 ^ 8 * (n / 256) = n from by omega] at this
    have h2 : n / 4 &&& (51 + 256 * rep 51 m) = (n % 256 / 4 &&& 51) + 256 * (n / 256 / 4 &&& rep 51 m) := by
      have := and_parts 8 (n % 256 / 4 + 64 * (n / 256 % 4)) (n / 256 / 4) 51 (rep 51 m) (by omega) (by omega)
      rw [low51 _ (Nat.mod_lt _ (by omega)) _ (Nat.mod_lt _ (by omega))] at this
      rwa [show n % 256 / 4 + 64 * (n / 256 % 4) + 2 ^ 8 * (n / 256 / 4) = n / 4 from by omega] at this
    rw [h1, h2]; omega
theorem oc3_bytes (f : Nat → Nat) (hf : ∀ b, b < 256 → f b ≤ 68 ∧ f b % 16 ≤ 4) (m n : Nat) : (bytewise f m n / 16 + bytewise f m n) &&& rep 15 m = bytewise (fun b => f b / 16 + f b &&& 15) m n := by
  induction m generalizing n with
  | zero => simp [rep, bytewise]
  | succ m ih =>
    have hb := hf (n % 256) (Nat.mod_lt _ (by omega))
    have hq : bytewise f m (n / 256) % 16 ≤ 4 := by
      cases m with
      | zero => simp [bytewise]
      | succ m => have := (hf (n / 256 % 256) (Nat.mod_lt _ (by omega))).2; simp only [bytewise]; omega
    simp only [rep, bytewise]
    rw [← ih (n / 256)]
    generalize hy : bytewise f m (n / 256) = q at *
    have := and_parts 8 (f (n % 256) / 16 + 16 * (q % 16) + f (n % 256)) (q / 16 + q) 15 (rep 15 m) (by omega) (by omega)
    rw [show f (n % 256) / 16 + 16 * (q % 16) + f (n % 256) + 2 ^ 8 * (q / 16 + q) = (f (n % 256) + 256 * q) / 16 + (f (n % 256) + 256 * q) from by omega] at this
    rw [show (15 + 256 * rep 15 m) = 15 + 2 ^ 8 * rep 15 m from rfl, this]
    congr 1
    rw [Nat.and_two_pow_sub_one_eq_mod _ 4, Nat.and_two_pow_sub_one_eq_mod _ 4]; omega
theorem oc_byte : ∀ b < 256, (((b / 2 &&& 85) + (b &&& 85)) / 4 &&& 51) + ((b / 2 &&& 85) + (b &&& 85) &&& 51) ≤ 68 ∧ ((((b / 2 &&& 85) + (b &&& 85)) / 4 &&& 51) + ((b / 2 &&& 85) + (b &&& 85) &&& 51)) % 16 ≤ 4 := by decide +kernel
theorem oc_byte' : ∀ b < 256, ((((b / 2 &&& 85) + (b &&& 85)) / 4 &&& 51) + ((b / 2 &&& 85) + (b &&& 85) &&& 51)) / 16 + ((((b / 2 &&& 85) + (b &&& 85)) / 4 &&& 51) + ((b / 2 &&& 85) + (b &&& 85) &&& 51)) &&& 15 = cnt b 8 := by decide +kernel
theorem oc_byte1 : ∀ b < 256, (b / 2 &&& 85) + (b &&& 85) < 256 := by decide +kernel
theorem oc123 (n : Nat) : oc3 (oc2 (oc1 n)) = bytewise (fun b => cnt b 8) 8 n := by
  have h1 : oc1 n = _ := oc1_bytes 8 n
  have h2 : oc2 (oc1 n) = _ := oc2_bytes 8 (oc1 n)
  rw [h1, bytewise_comp _ _ oc_byte1] at h2
  have h3 : oc3 (oc2 (oc1 n)) = (oc2 (oc1 n) / 16 + oc2 (oc1 n)) &&& rep 15 8 := rfl
  rw [h1, h2, oc3_bytes _ oc_byte] at h3
  rw [h1, h2, h3]
  exact bytewise_congr oc_byte' 8 n
theorem cnt_byte (n i : Nat) : cnt n (8 + i) = cnt (n % 256) 8 + cnt (n / 256) i := by
  rw [cnt_add, ← cnt_mod n (Nat.le_refl 8)]
theorem div_low (a b B : Nat) (h : a < B) : (a + B * b) / B = b := by
  rw [Nat.add_mul_div_left _ _ (by omega), Nat.div_eq_of_lt h, Nat.zero_add]
theorem half8 (p0 p1 p2 p3 p4 p5 p6 p7 : Nat) (h0 : p0 ≤ 8) (h1 : p1 ≤ 8) (h2 : p2 ≤ 8) (h3 : p3 ≤ 8) (h4 : p4 ≤ 8) (h5 : p5 ≤ 8) (h6 : p6 ≤ 8) (h7 : p7 ≤ 8) :
    p0 + 256 * (p1 + 256 * (p2 + 256 * (p3 + 256 * (p4 + 256 * (p5 + 256 * (p6 + 256 * (p7 + 256 * 0))))))) + (p0 + 256 * (p1 + 256 * (p2 + 256 * (p3 + 256 * (p4 + 256 * (p5 + 256 * (p6 + 256 * (p7 + 256 * 0)))))))) / 256 =
    (p0 + p1) + 256 * ((p1 + p2) + 256 * ((p2 + p3) + 256 * ((p3 + p4) + 256 * ((p4 + p5) + 256 * ((p5 + p6) + 256 * ((p6 + p7) + 256 * p7)))))) := by
  rw [div_low _ _ 256 (by omega)]; omega
theorem half8b (p0 p1 p2 p3 p4 p5 p6 p7 : Nat) (h0 : p0 ≤ 16) (h1 : p1 ≤ 16) (h2 : p2 ≤ 16) (h3 : p3 ≤ 16) (h4 : p4 ≤ 16) (h5 : p5 ≤ 16) (h6 : p6 ≤ 16) (h7 : p7 ≤ 16) :
    p0 + 256 * (p1 + 256 * (p2 + 256 * (p3 + 256 * (p4 + 256 * (p5 + 256 * (p6 + 256 * p7)))))) + (p0 + 256 * (p1 + 256 * (p2 + 256 * (p3 + 256 * (p4 + 256 * (p5 + 256 * (p6 + 256 * p7))))))) / 65536 =
    (p0 + p2) + 256 * ((p1 + p3) + 256 * ((p2 + p4) + 256 * ((p3 + p5) + 256 * ((p4 + p6) + 256 * ((p5 + p7) + 256 * (p6 + 256 * p7)))))) := by
  have : p0 + 256 * (p1 + 256 * (p2 + 256 * (p3 + 256 * (p4 + 256 * (p5 + 256 * (p6 + 256 * p7)))))) = (p0 + 256 * p1) + 65536 * (p2 + 256 * (p3 + 256 * (p4 + 256 * (p5 + 256 * (p6 + 256 * p7))))) := by omega
  rw [this, div_low _ _ 65536 (by omega)]; omega
theorem half8c (p0 p1 p2 p3 p4 p5 p6 p7 : Nat) (h0 : p0 ≤ 32) (h1 : p1 ≤ 32) (h2 : p2 ≤ 32) (h3 : p3 ≤ 32) (h4 : p4 ≤ 32) (h5 : p5 ≤ 32) (h6 : p6 ≤ 32) (h7 : p7 ≤ 32) :
    (p0 + 256 * (p1 + 256 * (p2 + 256 * (p3 + 256 * (p4 + 256 * (p5 + 256 * (p6 + 256 * p7)))))) + (p0 + 256 * (p1 + 256 * (p2 + 256 * (p3 + 256 * (p4 + 256 * (p5 + 256 * (p6 + 256 * p7))))))) / 4294967296) % 128 = p0 + p4 := by
  have : p0 + 256 * (p1 + 256 * (p2 + 256 * (p3 + 256 * (p4 + 256 * (p5 + 256 * (p6 + 256 * p7)))))) = (p0 + 256 * (p1 + 256 * (p2 + 256 * p3))) + 4294967296 * (p4 + 256 * (p5 + 256 * (p6 + 256 * p7))) := by omega
  rw [this, div_low _ _ 4294967296 (by omega)]; omega
theorem ones_count (n : Nat) : oc6 (oc5 (oc4 (oc3 (oc2 (oc1 n))))) % 128 = cnt n 64 := by
  have key : cnt n 64 = _ := cnt_byte n 56
  rw [show (56 : Nat) = 8 + 48 from rfl, cnt_byte, show (48 : Nat) = 8 + 40 from rfl, cnt_byte, show (40 : Nat) = 8 + 32 from rfl, cnt_byte, show (32 : Nat) = 8 + 24 from rfl, cnt_byte, show (24 : Nat) = 8 + 16 from rfl, cnt_byte,
    show (16 : Nat) = 8 + 8 from rfl, cnt_byte, show cnt (n / 256 / 256 / 256 / 256 / 256 / 256 / 256) 8 = cnt (n / 256 / 256 / 256 / 256 / 256 / 256 / 256 % 256) 8 from (cnt_mod _ (Nat.le_refl 8)).symm] at key
  rw [key, oc123]
  simp only [bytewise, oc4, oc5, oc6]
  have b0 := cnt_le (n % 256) 8
  have b1 := cnt_le (n / 256 % 256) 8
  have b2 := cnt_le (n / 256 / 256 % 256) 8
  have b3 := cnt_le (n / 256 / 256 / 256 % 256) 8
  have b4 := cnt_le (n / 256 / 256 / 256 / 256 % 256) 8
  have b5 := cnt_le (n / 256 / 256 / 256 / 256 / 256 % 256) 8
  have b6 := cnt_le (n / 256 / 256 / 256 / 256 / 256 / 256 % 256) 8
  have b7 := cnt_le (n / 256 / 256 / 256 / 256 / 256 / 256 / 256 % 256) 8
  generalize cnt (n % 256) 8 = p0 at *
  generalize cnt (n / 256 % 256) 8 = p1 at *
  generalize cnt (n / 256 / 256 % 256) 8 = p2 at *
  generalize cnt (n / 256 / 256 / 256 % 256) 8 = p3 at *
  generalize cnt (n / 256 / 256 / 256 / 256 % 256) 8 = p4 at *
  generalize cnt (n / 256 / 256 / 256 / 256 / 256 % 256) 8 = p5 at *
  generalize cnt (n / 256 / 256 / 256 / 256 / 256 / 256 % 256) 8 = p6 at *
  generalize cnt (n / 256 / 256 / 256 / 256 / 256 / 256 / 256 % 256) 8 = p7 at *
  clear key
  have e1 := half8 p0 p1 p2 p3 p4 p5 p6 p7 b0 b1 b2 b3 b4 b5 b6 b7
  rw [e1]
  clear e1
  have e2 := half8b (p0 + p1) (p1 + p2) (p2 + p3) (p3 + p4) (p4 + p5) (p5 + p6) (p6 + p7) p7 (by omega) (by omega) (by omega) (by omega) (by omega) (by omega) (by omega) (by omega)
  rw [e2]
  clear e2
  rw [half8c (p0 + p1 + (p2 + p3)) (p1 + p2 + (p3 + p4)) (p2 + p3 + (p4 + p5)) (p3 + p4 + (p5 + p6)) (p4 + p5 + (p6 + p7)) (p5 + p6 + p7) (p6 + p7) p7 (by omega) (by omega) (by omega) (by omega) (by omega) (by omega) (by omega) (by omega)]
  omega

/-! ### math/bits.Reverse64 -/
def rv (k m n : Nat) : Nat := (n / 2 ^ k &&& m) ||| ((n &&& m) * 2 ^ k)
def Swaps (k m : Nat) : Prop := ∀ i < 64, (m.testBit i = true → i ^^^ k = i + k ∧ i + k < 64 ∧ (k ≤ i → m.testBit (i - k) = false)) ∧ (m.testBit i = false → k ≤ i ∧ m.testBit (i - k) = true ∧ i ^^^ k = i - k)
theorem rv_bit {k m : Nat} (h : Swaps k m) (n i : Nat) (hi : i < 64) : (rv k m n).testBit i = n.testBit (i ^^^ k) := by
  obtain ⟨h1, h2⟩ := h i hi
  unfold rv
  rw [Nat.testBit_or, Nat.testBit_and, Nat.testBit_mul_two_pow, Nat.testBit_and, Nat.testBit_div_two_pow]
  cases hm : m.testBit i with
  | true =>
    obtain ⟨e, _, hk⟩ := h1 hm
    rw [e]
    by_cases hki : k ≤ i
    · rw [hk hki]; simp [Nat.add_comm]
    · simp [hki, Nat.add_comm]
  | false =>
    obtain ⟨hki, hm', e⟩ := h2 hm
    rw [e, hm']; simp [hki]
theorem sw1 : Swaps 1 6148914691236517205 := by unfold Swaps; decide +kernel
theorem sw2 : Swaps 2 3689348814741910323 := by unfold Swaps; decide +kernel
theorem sw4 : Swaps 4 1085102592571150095 := by unfold Swaps; decide +kernel
theorem sw8 : Swaps 8 71777214294589695 := by unfold Swaps; decide +kernel
theorem sw16 : Swaps 16 281470681808895 := by unfold Swaps; decide +kernel
theorem sw32 : Swaps 32 4294967295 := by unfold Swaps; decide +kernel
theorem xors : ∀ i < 64, ((((((i ^^^ 32) ^^^ 16) ^^^ 8) ^^^ 4) ^^^ 2) ^^^ 1) = 63 - i ∧ (i ^^^ 32) < 64 ∧ ((i ^^^ 32) ^^^ 16) < 64 ∧ (((i ^^^ 32) ^^^ 16) ^^^ 8) < 64 ∧ ((((i ^^^ 32) ^^^ 16) ^^^ 8) ^^^ 4) < 64 ∧ (((((i ^^^ 32) ^^^ 16) ^^^ 8) ^^^ 4) ^^^ 2) < 64 := by decide +kernel
def rev64 (n : Nat) : Nat := rv 32 4294967295 (rv 16 281470681808895 (rv 8 71777214294589695 (rv 4 1085102592571150095 (rv 2 3689348814741910323 (rv 1 6148914691236517205 n)))))
theorem rev64_bit (n i : Nat) (hi : i < 64) : (rev64 n).testBit i = n.testBit (63 - i) := by
  obtain ⟨e, h1, h2, h3, h4, h5⟩ := xors i hi
  unfold rev64
  rw [rv_bit sw32 _ _ hi, rv_bit sw16 _ _ h1, rv_bit sw8 _ _ h2, rv_bit sw4 _ _ h3, rv_bit sw2 _ _ h4, rv_bit sw1 _ _ h5, e]
/-- Bit by bit: the i lowest bits, the lowest one highest. -/
def turned (n : Nat) : Nat → Nat
  | 0 => 0
  | i + 1 => 2 * turned n i + n / 2 ^ i % 2
theorem turned_bit (n i j : Nat) : (turned n i).testBit j = (decide (j < i) && n.testBit (i - 1 - j)) := by
  induction i generalizing j with
  | zero => simp [turned]
  | succ i ih =>
    have hb : n / 2 ^ i % 2 < 2 ^ 1 := Nat.mod_lt _ (by omega)
    have := Nat.testBit_two_pow_mul_add (turned n i) hb j
    simp only [turned]
    rw [show 2 * turned n i = 2 ^ 1 * turned n i from rfl, this]
    by_cases hj : j < 1
    · have hj0 : j = 0 := by omega
      subst hj0
      simp [Nat.testBit, Nat.shiftRight_eq_div_pow, Nat.one_and_eq_mod_two]
    · rw [if_neg hj, ih]
      have e : i - 1 - (j - 1) = i + 1 - 1 - j := by omega
      rw [e]
      congr 1
      simp; omega
theorem turned_lt (n i : Nat) : turned n i < 2 ^ i := by
  induction i with
  | zero => simp [turned]
  | succ i ih => simp only [turned]; have := Nat.mod_lt (n / 2 ^ i) (by omega : 0 < 2); rw [Nat.pow_succ]; omega
theorem rv_lt {k m n : Nat} (hm : m * 2 ^ k < 2 ^ 64) (hm' : m < 2 ^ 64) : rv k m n < 2 ^ 64 := by
  unfold rv
  refine Nat.or_lt_two_pow (Nat.and_lt_two_pow _ hm') ?_
  have : n &&& m ≤ m := Nat.and_le_right
  exact Nat.lt_of_le_of_lt (Nat.mul_le_mul_right _ this) hm
theorem rev_turned (n : Nat) : rev64 n = turned n 64 := by
  apply Nat.eq_of_testBit_eq
  intro i
  rw [turned_bit]
  by_cases hi : i < 64
  · rw [rev64_bit _ _ hi]; simp [hi]
  · have h1 : rev64 n < 2 ^ 64 := rv_lt (by decide) (by decide)
    have h2 : rev64 n < 2 ^ i := Nat.lt_of_lt_of_le h1 (Nat.pow_le_pow_right (by omega) (by omega))
    rw [Nat.testBit_lt_two_pow h2]; simp [hi]
/-- What the bit-by-bit sum has gathered behind i rounds. -/
theorem turned_step (n i : Nat) (hi : i < 64) : 2 ^ (64 - i) * turned n i + n / 2 ^ i % 2 * 2 ^ (63 - i) = 2 ^ (64 - (i + 1)) * turned n (i + 1) := by
  simp only [turned]
  rw [show 64 - i = (63 - i) + 1 from by omega, show 64 - (i + 1) = 63 - i from by omega, Nat.pow_succ, Nat.mul_add, Nat.mul_comm (n / 2 ^ i % 2)]
  rw [Nat.mul_assoc]

/-! ### '&', '|', '^' at int, both sides not below 0 -/
theorem ofInt_i64 (a : Nat) (ha : a < 9223372036854775808) : (BitVec.ofInt 64 (a : Int)).toNat = a := by
  rw [BitVec.ofInt_natCast, BitVec.toNat_ofNat]; exact Nat.mod_eq_of_lt (by omega)
theorem i64_and_nat (a b : Nat) (ha : a < 9223372036854775808) (hb : b < 9223372036854775808) : bits .and .i64 (a : Int) (b : Int) = ((a &&& b : Nat) : Int) := by
  have hx : a &&& b < 2 ^ 63 := Nat.and_lt_two_pow _ (by omega)
  show IntKind.i64.wrap ((BitVec.ofInt 64 (a : Int) &&& BitVec.ofInt 64 (b : Int)).toNat : Int) = _
  rw [BitVec.toNat_and, ofInt_i64 a ha, ofInt_i64 b hb, IntKind.wrap_i64]
  omega
theorem i64_or_nat (a b : Nat) (ha : a < 9223372036854775808) (hb : b < 9223372036854775808) : bits .or .i64 (a : Int) (b : Int) = ((a ||| b : Nat) : Int) := by
  have hx : a ||| b < 2 ^ 63 := Nat.or_lt_two_pow (by omega) (by omega)
  show IntKind.i64.wrap ((BitVec.ofInt 64 (a : Int) ||| BitVec.ofInt 64 (b : Int)).toNat : Int) = _
  rw [BitVec.toNat_or, ofInt_i64 a ha, ofInt_i64 b hb, IntKind.wrap_i64]
  omega
theorem and_u64 (x : Int) (a m : Nat) (hx : x = (a : Nat)) (ha : a < 18446744073709551616) (hm : m < 18446744073709551616) : bits .and .u64 x (m : Int) = ((a &&& m : Nat) : Int) := by subst hx; exact u64_and_nat a m ha hm
theorem or_u64 (x y : Int) (a m : Nat) (hx : x = (a : Nat)) (hy : y = (m : Nat)) (ha : a < 18446744073709551616) (hm : m < 18446744073709551616) : bits .or .u64 x y = ((a ||| m : Nat) : Int) := by subst hx hy; exact u64_or_nat a m ha hm
theorem and_i64 (x : Int) (a m : Nat) (hx : x = (a : Nat)) (ha : a < 9223372036854775808) (hm : m < 9223372036854775808) : bits .and .i64 x (m : Int) = ((a &&& m : Nat) : Int) := by subst hx; exact i64_and_nat a m ha hm
/-- Bit i of a word. -/
theorem bit_u64 (n i : Nat) (hn : n < 18446744073709551616) : bits .and .u64 ((n : Int) / 2 ^ i) 1 = ((n / 2 ^ i % 2 : Nat) : Int) := by
  have h : n / 2 ^ i ≤ n := Nat.div_le_self _ _
  have := and_u64 ((n : Int) / 2 ^ i) (n / 2 ^ i) 1 (by simp) (by omega) (by decide)
  rw [Nat.and_one_is_mod] at this
  exact this
theorem bit_test (n i : Nat) : (((n / 2 ^ i % 2 : Nat) : Int) == 1) = n.testBit i := by
  simp only [Nat.testBit, Nat.shiftRight_eq_div_pow, Nat.one_and_eq_mod_two]
  rcases Nat.mod_two_eq_zero_or_one (n / 2 ^ i) with h | h <;> rw [h] <;> rfl
theorem wrap_u64 (x : Int) : IntKind.u64.wrap x = x % 18446744073709551616 := by simp [IntKind.wrap, IntKind.bits, IntKind.signed]
/-- The mask of the i lowest bits, as Go makes it: 1<<i - 1. -/
theorem mask_u64 (i : Nat) (hi : i ≤ 64) : IntKind.u64.wrap (IntKind.u64.wrap (2 ^ i) - 1) = ((2 ^ i - 1 : Nat) : Int) := by
  rw [wrap_u64, wrap_u64]
  have h1 : 1 ≤ 2 ^ i := Nat.one_le_two_pow
  have e : ((2 : Int) ^ i) = ((2 ^ i : Nat) : Int) := by simp
  rcases Nat.lt_or_ge i 64 with h | h
  · have h2 : 2 ^ i < 2 ^ 64 := Nat.pow_lt_pow_right (by omega) h
    rw [e]; omega
  · obtain rfl : i = 64 := by omega
    decide
theorem mask_and (n i : Nat) (hn : n < 18446744073709551616) (hi : i ≤ 64) : bits .and .u64 (n : Int) (IntKind.u64.wrap (IntKind.u64.wrap (2 ^ i) - 1)) = ((n % 2 ^ i : Nat) : Int) := by
  rw [mask_u64 i hi]
  have h2 : 2 ^ i ≤ 2 ^ 64 := Nat.pow_le_pow_right (by omega) hi
  have := and_u64 (n : Int) n (2 ^ i - 1) rfl hn (by omega)
  rwa [Nat.and_two_pow_sub_one_eq_mod] at this
theorem cnt_low (n i : Nat) (hi : i ≤ 64) : cnt (n % 2 ^ i) 64 = cnt n i := by
  rw [show (64 : Nat) = i + (64 - i) from by omega, cnt_add, cnt_mod n (Nat.le_refl i), Nat.div_eq_of_lt (Nat.mod_lt _ (Nat.two_pow_pos i)), cnt_zero, Nat.add_zero]
theorem mod_of_test (n i : Nat) : n / 2 ^ i % 2 = if n.testBit i then 1 else 0 := by
  simp only [Nat.testBit, Nat.shiftRight_eq_div_pow, Nat.one_and_eq_mod_two]
  rcases Nat.mod_two_eq_zero_or_one (n / 2 ^ i) with h | h <;> rw [h] <;> rfl
theorem cnt_0 (n : Nat) : cnt n 0 = 0 := rfl
theorem cnt_succ (n i : Nat) : cnt n (i + 1) = cnt n i + n / 2 ^ i % 2 := rfl
theorem turned_le (n i : Nat) (hi : i ≤ 64) : 2 ^ (64 - i) * turned n i < 18446744073709551616 := by
  have h := turned_lt n i
  have h1 : 2 ^ (64 - i) * turned n i < 2 ^ (64 - i) * 2 ^ i := Nat.mul_lt_mul_of_pos_left h (Nat.two_pow_pos _)
  rw [← Nat.pow_add, show 64 - i + i = 64 from by omega] at h1
  exact h1
theorem turned_0 (n : Nat) : turned n 0 = 0 := rfl
theorem pow_u64 (i : Nat) (hi : i < 64) : IntKind.u64.wrap (2 ^ i) = ((2 ^ i : Nat) : Int) := by
  have h2 : 2 ^ i < 2 ^ 64 := Nat.pow_lt_pow_right (by omega) hi
  have e : ((2 : Int) ^ i) = ((2 ^ i : Nat) : Int) := by simp
  rw [wrap_u64, e]
  generalize (2 ^ i : Nat) = q at *
  omega
theorem rv_facts (k m n : Nat) (K M : Int) (hK : K = 2 ^ k) (hM : M = (m : Nat)) (hn : n < 18446744073709551616) (hm : m < 18446744073709551616) (hmk : m * 2 ^ k < 18446744073709551616) :
    ∃ a b : Nat, (a : Int) ≤ M ∧ (b : Int) * K ≤ M * K ∧ (b : Int) ≤ M ∧ bits .and .u64 ((n : Int) / K) M = (a : Int) ∧ bits .and .u64 (n : Int) M = (b : Int) ∧ bits .or .u64 (a : Int) ((b : Int) * K) = ((rv k m n : Nat) : Int) ∧ rv k m n < 18446744073709551616 := by
  subst hK hM
  have hd : n / 2 ^ k ≤ n := Nat.div_le_self _ _
  have hb : n &&& m ≤ m := Nat.and_le_right
  have hbk : (n &&& m) * 2 ^ k ≤ m * 2 ^ k := Nat.mul_le_mul_right _ hb
  have ha : n / 2 ^ k &&& m ≤ m := Nat.and_le_right
  have hbk' : (((n &&& m : Nat) : Int)) * 2 ^ k ≤ (m : Int) * 2 ^ k := by
    have : (((n &&& m) * 2 ^ k : Nat) : Int) ≤ ((m * 2 ^ k : Nat) : Int) := by omega
    simpa using this
  refine ⟨n / 2 ^ k &&& m, n &&& m, by omega, hbk', by omega, and_u64 _ (n / 2 ^ k) m (by simp) (by omega) hm, and_u64 _ n m rfl hn hm, ?_, rv_lt (by omega) (by omega)⟩
  unfold rv
  exact or_u64 _ _ _ _ rfl (by simp) (by omega) (by omega)
theorem rv_last (n2 : Nat) (h2 : n2 < 18446744073709551616) : bits .or .u64 ((n2 : Int) / 4294967296) (IntKind.u64.wrap ((n2 : Int) * 4294967296)) = ((rv 32 4294967295 n2 : Nat) : Int) := by
  rw [wrap_u64]
  have e : ((n2 : Int) * 4294967296) % 18446744073709551616 = ((n2 &&& 4294967295 : Nat) : Int) * 4294967296 := by
    rw [show (4294967295 : Nat) = 2 ^ 32 - 1 from rfl, Nat.and_two_pow_sub_one_eq_mod]; omega
  rw [e]
  unfold rv
  have e4 : n2 / 2 ^ 32 &&& 4294967295 = n2 / 2 ^ 32 := by
    rw [show (4294967295 : Nat) = 2 ^ 32 - 1 from rfl, Nat.and_two_pow_sub_one_eq_mod]; omega
  rw [e4]
  have hb : n2 &&& 4294967295 ≤ 4294967295 := Nat.and_le_right
  exact or_u64 _ _ _ _ (by omega) (by omega) (by omega) (by omega)
theorem rev64_eq (n : Nat) : rev64 n = rv 32 4294967295 (rv 16 281470681808895 (rv 8 71777214294589695 (rv 4 1085102592571150095 (rv 2 3689348814741910323 (rv 1 6148914691236517205 n))))) := rfl
attribute [irreducible] cnt turned rev64 rv
end Go.Dam

/-
  append onto a row of the call's own, with the word where the row lies afterwards: where it lay, or in a new block; of any number of cells. Conditions: none; nothing here names the program.
-/
namespace Go.Dam
open Go Go.RowKit Go.ChangeShapes Go.WideShapes Go.Joins Go.Deep
set_option linter.unusedVariables false
section
variable {P : Program} {w : World}
/-- The row v' lies where v lay, or in a block that is not below B. -/
def LiesOr (B : Nat) (v v' : Value) : Prop := ∀ g, v'.ownBlock = some g → v.ownBlock = some g ∨ B ≤ g
theorem run_append_lies (t ty e : TypeId) (i : TypeInfo) (z : Value) (size bytes : Nat) (base : Nat) (ht : P.underlying t = some (.slice e)) (hi : P.info? e = some i) (hz : i.zero = some z)
    (hsize : i.size = size) (hby : i.bytes = bytes) (hzs : z.cells.size = size) (hsz : 0 < size)
    (v : Value) (n : Nat) (xs : List Value) (hown : w.ownsRow base e size v n xs)
    (a : Addr) (m c : Nat) (news : List Value) (hl : news.length = m * size) (hnews : ∀ j u, news[j]? = some u → w.cell? (a.add j) = some u) (h1 : ∀ u ∈ news, u.oneCell' = true)
    (h63 : n + m ≤ maxLen) (hbytes : (n + m) * bytes ≤ 140737488355328) (hbase : base ≤ w.heap.size) (v' : Value) (w' : World)
    (hrun : (Builtin.append_ #[t, t] ty #[v, .slice (some a) m c]).run P w = .ok v' w') : LiesOr w.heap.size v v' := by
  rcases hown.2 with ⟨rfl, rfl⟩ | ⟨g, cap, cur, rfl, hbg, hg, hnc, hcm, hcs, htake⟩
  · have hx : xs = [] := List.eq_nil_of_length_eq_zero (by simpa using hown.1)
    subst hx
    obtain ⟨v2, w2, hr, h2, _⟩ := run_append_own (P := P) w w.heap.size t ty e i z size bytes ht hi hz hsize hby hzs hsz (.slice none 0 0) 0 [] (World.ownsRow_nil w w.heap.size e size) a m c news hl hnews h1 h63 hbytes (Nat.le_refl _)
    rw [hrun] at hr
    injection hr with hv hw
    subst hv
    exact fun g hg => .inr (h2.lt g hg).1
  · subst hsize
    have hsmall : n + m ≤ 9223372036854775807 := by simp only [maxLen] at h63; omega
    by_cases hroom : n + m ≤ cap
    · have hfit : n * i.size + news.length ≤ cur.size := by rw [hl, hcs, ← Nat.add_mul]; exact Nat.mul_le_mul_right _ hroom
      have hr := run_append_room (P := P) w t ty e i ht hi g n cap cur hg a m c news hl hnews h1 hroom hfit
      rw [hrun] at hr
      injection hr with hv hw
      subst hv
      exact fun k hk => .inl hk
    · have holds : ∀ j u, xs[j]? = some u → w.cell? ((⟨g, 0, none⟩ : Addr).add j) = some u := hown.cells (g := g) rfl
      have hr := run_append_grow (P := P) w t ty e i z ht hi hz ⟨g, 0, none⟩ n cap xs hown.1 holds a m c news hl hnews (by omega) (by omega) (by subst hby; exact growslice_fits (by omega) hbytes)
      rw [hrun] at hr
      injection hr with hv hw
      subst hv
      refine fun k hk => .inr ?_
      simp only [Value.ownBlock, Option.some.injEq] at hk
      omega
/-- append of m elements, with the word where the row lies. -/
theorem wpList_pushM {T E : TypeId} {z : Value} {size bytes : Nat} (el : El P T E z size bytes) {ops : Array Oper} {rest : List Oper} {o : Oper} {a : Act} {Q : Exit → Act → World → Prop} (hgd : o.guard = none) (s x : Operand)
    (ho : o.op = .call { callee := .builtin .append, args := #[s, x], argTypes := #[T, T] })
    (base : Nat) (v : Value) (n : Nat) (xs : List Value) (hown : w.ownsRow base E size v n xs) (hs : a.eval s = v)
    (ad : Addr) (m c : Nat) (news : List Value) (hx : a.eval x = .slice (some ad) m c) (hl : news.length = m * size) (hnews : ∀ j u, news[j]? = some u → w.cell? (ad.add j) = some u) (h1 : ∀ u ∈ news, u.oneCell' = true)
    (h63 : n + m ≤ 140737488355328) (hbytes : (n + m) * bytes ≤ 140737488355328) (hbase : base ≤ w.heap.size)
    (h : ∀ v' w', w'.ownsRow base E size v' (n + m) (xs ++ news) → w.grownBy w' v.ownBlock → LiesOr w.heap.size v v' → wpList P ops Q rest (a.put o.dst v') w') : wpList P ops Q (o :: rest) a w := by
  obtain ⟨i, hi, hz, hz1, hz2⟩ := el.info
  refine wpList_plain hgd fun K hK => ?_
  obtain ⟨v', w', hr, h2, h3, h4⟩ := run_append_own (P := P) w base T o.type E i z size bytes el.ht hi hz hz1 hz2 el.hz el.hs v n xs hown ad m c news hl hnews h1 (by unfold maxLen; omega) hbytes hbase
  have h5 := run_append_lies (P := P) T o.type E i z size bytes base el.ht hi hz hz1 hz2 el.hz el.hs v n xs hown ad m c news hl hnews h1 (by unfold maxLen; omega) hbytes hbase v' w' hr
  unfold Oper.wp execOp
  simp only [ho, resolve, invoke, builtin, Sem.run_bind, Sem.run_pure, Result.andThen_ok, List.map_toArray, List.map_cons, List.map_nil, hs, hx, hr]
  exact hK _ _ (h v' w' h2 h3 h5)
theorem add_zero_addr (g j : Nat) : (⟨g, 0, none⟩ : Addr).add j = ⟨g, j, none⟩ := by unfold Addr.add; split <;> simp_all
/-- append(s, x), x one element of one cell: it lies in the block g. -/
theorem wpList_pushD {T E : TypeId} {z : Value} {bytes : Nat} (el : El P T E z 1 bytes) {ops : Array Oper} {rest : List Oper} {o : Oper} {a : Act} {Q : Exit → Act → World → Prop} (hgd : o.guard = none) (s x : Operand)
    (ho : o.op = .call { callee := .builtin .append, args := #[s, x], argTypes := #[T, T] })
    (base : Nat) (v : Value) (n : Nat) (xs : List Value) (hown : w.ownsRow base E 1 v n xs) (hs : a.eval s = v)
    (g c : Nat) (u : Value) (hx : a.eval x = .slice (some ⟨g, 0, none⟩) 1 c) (hu : w.cell? ⟨g, 0, none⟩ = some u) (h1 : u.oneCell' = true)
    (h63 : n + 1 ≤ 140737488355328) (hbytes : (n + 1) * bytes ≤ 140737488355328) (hbase : base ≤ w.heap.size)
    (h : ∀ v' w', w'.ownsRow base E 1 v' (n + 1) (xs ++ [u]) → w.grownBy w' v.ownBlock → LiesOr w.heap.size v v' → wpList P ops Q rest (a.put o.dst v') w') : wpList P ops Q (o :: rest) a w := by
  refine wpList_pushM el hgd s x ho base v n xs hown hs ⟨g, 0, none⟩ 1 c [u] hx rfl ?_ ?_ h63 hbytes hbase h
  · intro j y hj
    cases j with
    | zero => simp at hj; subst hj; exact hu
    | succ j => simp at hj
  · intro y hy
    simp at hy; subst hy; exact h1
end
/-- Two rows of the call's own do not lie in one block. -/
def Apart (v u : Value) : Prop := ∀ g, v.ownBlock = some g → u.ownBlock ≠ some g
theorem Apart.symm {v u : Value} (h : Apart v u) : Apart u v := fun g h1 h2 => h g h2 h1
theorem Apart.nil (u : Value) : Apart (.slice none 0 0) u := fun g h => by cases h
theorem Apart.nil' (u : Value) : Apart u (.slice none 0 0) := fun g h h' => by cases h'
/-- A row that was appended to is still apart from another old one. -/
theorem Apart.grow {w : World} {v v' u : Value} {base : Nat} {e : TypeId} {size n : Nat} {xs : List Value} (h : Apart v u) (hl : LiesOr w.heap.size v v') (hu : w.ownsRow base e size u n xs) : Apart v' u := by
  intro g h1 h2
  rcases hl g h1 with h3 | h3
  · exact h g h3 h2
  · have := (hu.lt g h2).2; omega
/-- The other row is kept. -/
theorem Apart.kept {w w' : World} {v u : Value} {base : Nat} {e : TypeId} {size n : Nat} {xs : List Value} (h : Apart v u) (hg : w.grownBy w' v.ownBlock) (hu : w.ownsRow base e size u n xs) : w'.ownsRow base e size u n xs := by
  refine hu.kept hg ?_
  cases hb : u.ownBlock with
  | none => exact .inl rfl
  | some g => exact .inr fun e => h g e.symm hb
end Go.Dam

/-
  The plain law of areas by cuts: the places of rectangles, summed by whichever rows of cuts; the borders so far are the depth at a strip. Conditions: none; nothing here names the program; no import.
-/
namespace Go.Dam.Klee
/-- The sum of f over n places from a on. -/
def sumI (f : Int → Int) (a : Int) : Nat → Int
  | 0 => 0
  | n + 1 => sumI f a n + f (a + n)
theorem sumI_const {f : Int → Int} {a c : Int} : ∀ {n : Nat}, (∀ i : Nat, i < n → f (a + i) = c) → sumI f a n = n * c
  | 0, _ => by simp [sumI]
  | n + 1, h => by
    rw [sumI, sumI_const fun i hi => h i (by omega), h n (by omega)]
    push_cast
    rw [Int.add_mul]
    omega
theorem sumI_split {f : Int → Int} {a : Int} {m : Nat} : ∀ n : Nat, sumI f a (m + n) = sumI f a m + sumI f (a + m) n
  | 0 => by simp [sumI]
  | n + 1 => by
    rw [← Nat.add_assoc, sumI, sumI_split n, sumI, Int.add_assoc]
    have : a + ((m + n : Nat) : Int) = a + m + n := by push_cast; omega
    rw [this]
theorem sumI_congr {f g : Int → Int} {a : Int} : ∀ {n : Nat}, (∀ i : Nat, i < n → f (a + i) = g (a + i)) → sumI f a n = sumI g a n
  | 0, _ => rfl
  | n + 1, h => by rw [sumI, sumI, sumI_congr fun i hi => h i (by omega), h n (by omega)]
/-- The sum of f from a up to b, without b. -/
def span (f : Int → Int) (a b : Int) : Int := sumI f a (b - a).toNat
theorem span_split {f : Int → Int} {a b c : Int} (h1 : a ≤ b) (h2 : b ≤ c) : span f a c = span f a b + span f b c := by
  unfold span
  have e : (c - a).toNat = (b - a).toNat + (c - b).toNat := by omega
  rw [e, sumI_split, show a + ((b - a).toNat : Int) = b by omega]
theorem span_const {f : Int → Int} {a b c : Int} (h : a ≤ b) (hc : ∀ x, a ≤ x → x < b → f x = c) : span f a b = (b - a) * c := by
  unfold span
  rw [sumI_const fun i hi => hc _ (by omega) (by omega), show ((b - a).toNat : Int) = b - a by omega]
theorem span_nil (f : Int → Int) (a : Int) : span f a a = 0 := by unfold span; simp [sumI]
theorem span_congr {f g : Int → Int} {a b : Int} (h : ∀ x, a ≤ x → x < b → f x = g x) : span f a b = span g a b := by
  unfold span
  exact sumI_congr fun i hi => h _ (by omega) (by omega)
/-- The sum over the steps of a row of cuts. -/
def steps (f : Int → Int) (c : Nat → Int) : Nat → Int
  | 0 => 0
  | n + 1 => steps f c n + (c (n + 1) - c n) * f (c n)
theorem cuts_mono {c : Nat → Int} {n : Nat} (hm : ∀ i, i < n → c i ≤ c (i + 1)) : ∀ j, j ≤ n → c 0 ≤ c j
  | 0, _ => Int.le_refl _
  | j + 1, h => Int.le_trans (cuts_mono hm j (by omega)) (hm j (by omega))
theorem span_cuts {f : Int → Int} {c : Nat → Int} : ∀ n : Nat, (∀ i, i < n → c i ≤ c (i + 1)) → (∀ i, i < n → ∀ x, c i ≤ x → x < c (i + 1) → f x = f (c i)) → span f (c 0) (c n) = steps f c n
  | 0, _, _ => span_nil _ _
  | n + 1, hm, hf => by
    rw [span_split (cuts_mono hm n (by omega)) (hm n (by omega)), span_cuts n (fun i hi => hm i (by omega)) (fun i hi => hf i (by omega)), span_const (hm n (by omega)) (hf n (by omega)), steps]
/-- A rectangle: X0, Y0, X1, Y1. -/
abbrev Rc := Int × Int × Int × Int
def inR (r : Rc) (x y : Int) : Bool := decide (r.1 ≤ x) && (decide (x ≤ r.2.2.1) && (decide (r.2.1 ≤ y) && decide (y ≤ r.2.2.2)))
/-- How many rectangles have a place. -/
def deep (l : List Rc) (x y : Int) : Int := ((l.filter fun r => inR r x y).length : Int)
theorem deep_nonneg (l : List Rc) (x y : Int) : 0 ≤ deep l x y := by unfold deep; omega
/-- Between two cuts of X no rectangle begins or is over. -/
theorem deep_const_x {l : List Rc} {a b y : Int} (h : ∀ r ∈ l, (r.1 ≤ a ∨ b ≤ r.1) ∧ (r.2.2.1 + 1 ≤ a ∨ b ≤ r.2.2.1 + 1)) : ∀ x, a ≤ x → x < b → deep l x y = deep l a y := fun x h1 h2 => by
  unfold deep
  congr 2
  apply List.filter_congr
  intro r hr
  obtain ⟨e1, e2⟩ := h r hr
  unfold inR
  have d1 : decide (r.1 ≤ x) = decide (r.1 ≤ a) := decide_eq_decide.2 (by omega)
  have d2 : decide (x ≤ r.2.2.1) = decide (a ≤ r.2.2.1) := decide_eq_decide.2 (by omega)
  rw [d1, d2]
theorem deep_const_y {l : List Rc} {a b x : Int} (h : ∀ r ∈ l, (r.2.1 ≤ a ∨ b ≤ r.2.1) ∧ (r.2.2.2 + 1 ≤ a ∨ b ≤ r.2.2.2 + 1)) : ∀ y, a ≤ y → y < b → deep l x y = deep l x a := fun y h1 h2 => by
  unfold deep
  congr 2
  apply List.filter_congr
  intro r hr
  obtain ⟨e1, e2⟩ := h r hr
  unfold inR
  have d1 : decide (r.2.1 ≤ y) = decide (r.2.1 ≤ a) := decide_eq_decide.2 (by omega)
  have d2 : decide (y ≤ r.2.2.2) = decide (a ≤ r.2.2.2) := decide_eq_decide.2 (by omega)
  rw [d1, d2]
/-- A row of cuts that no border lies strictly between. -/
def CutsX (l : List Rc) (c : Nat → Int) (n : Nat) : Prop := (∀ i, i < n → c i ≤ c (i + 1)) ∧ ∀ i, i < n → ∀ r ∈ l, (r.1 ≤ c i ∨ c (i + 1) ≤ r.1) ∧ (r.2.2.1 + 1 ≤ c i ∨ c (i + 1) ≤ r.2.2.1 + 1)
def CutsY (l : List Rc) (c : Nat → Int) (n : Nat) : Prop := (∀ i, i < n → c i ≤ c (i + 1)) ∧ ∀ i, i < n → ∀ r ∈ l, (r.2.1 ≤ c i ∨ c (i + 1) ≤ r.2.1) ∧ (r.2.2.2 + 1 ≤ c i ∨ c (i + 1) ≤ r.2.2.2 + 1)
/-- What a depth counts for. -/
def ind (d : Int) : Int := if 0 < d then 1 else 0
/-- The places of a box that lie in some rectangle. -/
def areaIn (l : List Rc) (xa xb ya yb : Int) : Int := span (fun x => span (fun y => ind (deep l x y)) ya yb) xa xb
/-- By whichever cuts: the same sum. -/
theorem area_cuts {l : List Rc} {cx cy : Nat → Int} {n m : Nat} (hx : CutsX l cx n) (hy : CutsY l cy m) :
    areaIn l (cx 0) (cx n) (cy 0) (cy m) = steps (fun x => steps (fun y => ind (deep l x y)) cy m) cx n := by
  have e : ∀ x, span (fun y => ind (deep l x y)) (cy 0) (cy m) = steps (fun y => ind (deep l x y)) cy m := fun x =>
    span_cuts m hy.1 fun i hi y h1 h2 => by show ind _ = ind _; rw [deep_const_y (hy.2 i hi) y h1 h2]
  unfold areaIn
  rw [show (fun x => span (fun y => ind (deep l x y)) (cy 0) (cy m)) = fun x => steps (fun y => ind (deep l x y)) cy m from funext e]
  refine span_cuts n hx.1 fun i hi x h1 h2 => ?_
  have e2 : (fun y => ind (deep l x y)) = fun y => ind (deep l (cx i) y) := funext fun y => by rw [deep_const_x (hx.2 i hi) x h1 h2]
  show steps (fun y => ind (deep l x y)) cy m = steps (fun y => ind (deep l (cx i) y)) cy m
  rw [e2]
/-- Ahead of the first cut and behind the last one there is nothing. -/
theorem steps_zero {f : Int → Int} {c : Nat → Int} : ∀ {n : Nat}, (∀ i, i < n → c (i + 1) = c i ∨ f (c i) = 0) → steps f c n = 0
  | 0, _ => rfl
  | n + 1, h => by
    rw [steps, steps_zero fun i hi => h i (by omega)]
    rcases h n (by omega) with e | e
    · rw [e, Int.sub_self, Int.zero_mul]; rfl
    · rw [e, Int.mul_zero]; rfl
/-- A border: where, from which row, up to which row, by how many. -/
abbrev Bd := Int × Int × Int × Int
def vY (y : Int) (b : Bd) : Int := if b.2.1 ≤ y ∧ y < b.2.2.1 then b.2.2.2 else 0
def vX (x y : Int) (b : Bd) : Int := if b.1 ≤ x then vY y b else 0
def tot (g : Bd → Int) : List Bd → Int
  | [] => 0
  | b :: r => g b + tot g r
theorem tot_app (g : Bd → Int) (b : List Bd) : ∀ a : List Bd, tot g (a ++ b) = tot g a + tot g b
  | [] => by simp [tot]
  | x :: a => by rw [List.cons_append, tot, tot, tot_app g b a]; omega
theorem tot_perm {g : Bd → Int} {a b : List Bd} (h : a.Perm b) : tot g a = tot g b := by
  induction h with
  | nil => rfl
  | cons x _ ih => rw [tot, tot, ih]
  | swap x y l => simp only [tot]; omega
  | trans _ _ h1 h2 => exact h1.trans h2
theorem tot_congr {g k : Bd → Int} : ∀ {a : List Bd}, (∀ b ∈ a, g b = k b) → tot g a = tot k a
  | [], _ => rfl
  | x :: a, h => by rw [tot, tot, h x (by simp), tot_congr fun b hb => h b (by simp [hb])]
theorem tot_zero {g : Bd → Int} {a : List Bd} (h : ∀ b ∈ a, g b = 0) : tot g a = 0 := by
  induction a with
  | nil => rfl
  | cons x a ih => rw [tot, h x (by simp), ih fun b hb => h b (by simp [hb])]; rfl
/-- The borders of rectangles. -/
def bordersOf : List Rc → List Bd
  | [] => []
  | r :: l => (r.1, r.2.1, r.2.2.2 + 1, 1) :: (r.2.2.1 + 1, r.2.1, r.2.2.2 + 1, -1) :: bordersOf l
theorem deep_cons (r : Rc) (l : List Rc) (x y : Int) : deep (r :: l) x y = (if inR r x y then 1 else 0) + deep l x y := by
  unfold deep
  by_cases h : inR r x y = true
  · rw [List.filter_cons_of_pos (by simpa using h), if_pos h, List.length_cons]; push_cast; omega
  · rw [List.filter_cons_of_neg (by simpa using h), if_neg h]; omega
/-- The borders up to x, summed: how many rectangles have the place. -/
theorem tot_borders (x y : Int) : ∀ {l : List Rc}, (∀ r ∈ l, r.1 ≤ r.2.2.1) → tot (vX x y) (bordersOf l) = deep l x y
  | [], _ => rfl
  | r :: l, h => by
    have h0 := h r (by simp)
    rw [bordersOf, tot, tot, tot_borders x y fun r' hr => h r' (by simp [hr]), deep_cons]
    have : vX x y (r.1, r.2.1, r.2.2.2 + 1, 1) + vX x y (r.2.2.1 + 1, r.2.1, r.2.2.2 + 1, -1) = if inR r x y then 1 else 0 := by
      unfold vX vY inR
      by_cases c1 : r.1 ≤ x <;> by_cases c2 : x ≤ r.2.2.1 <;> by_cases c3 : r.2.1 ≤ y <;> by_cases c4 : y ≤ r.2.2.2 <;> simp [c1, c2, c3, c4] <;> omega
    omega
/-- Sorted borders: those so far, at a strip, are all those up to its x. -/
theorem tot_strip {l : List Rc} {bs a b : List Bd} {x y : Int} (hl : ∀ r ∈ l, r.1 ≤ r.2.2.1) (hp : bs.Perm (bordersOf l)) (hs : bs = a ++ b) (ha : ∀ c ∈ a, c.1 ≤ x) (hb : ∀ c ∈ b, x < c.1) : tot (vY y) a = deep l x y := by
  rw [← tot_borders x y hl, ← tot_perm hp, hs, tot_app]
  rw [tot_zero (a := b) fun c hc => by have := hb c hc; unfold vX; rw [if_neg (by omega)]]
  rw [tot_congr (a := a) (g := vX x y) (k := vY y) fun c hc => by unfold vX; rw [if_pos (ha c hc)]]
  omega
end Go.Dam.Klee

/-
  The plain law of areas and depths by cuts: the sweep over sorted borders sums up what the cells do. Conditions: none; nothing here names the program.
-/
namespace Go.Dam.Klee
/-- The rectangles of a flat list. -/
def rcs (l : List Int) : Nat → List Rc
  | 0 => []
  | n + 1 => rcs l n ++ [(l.getD (n * 4) 0, l.getD (n * 4 + 1) 0, l.getD (n * 4 + 2) 0, l.getD (n * 4 + 3) 0)]
def xsOf (l : List Int) : Nat → List Int
  | 0 => []
  | n + 1 => xsOf l n ++ [l.getD (n * 4) 0, l.getD (n * 4 + 2) 0 + 1]
def ysOf (l : List Int) : Nat → List Int
  | 0 => []
  | n + 1 => ysOf l n ++ [l.getD (n * 4 + 1) 0, l.getD (n * 4 + 3) 0 + 1]
def bdsOf (l : List Int) : Nat → List Bd
  | 0 => []
  | n + 1 => bdsOf l n ++ [(l.getD (n * 4) 0, l.getD (n * 4 + 1) 0, l.getD (n * 4 + 3) 0 + 1, 1), (l.getD (n * 4 + 2) 0 + 1, l.getD (n * 4 + 1) 0, l.getD (n * 4 + 3) 0 + 1, -1)]
theorem bordersOf_app : ∀ (a b : List Rc), bordersOf (a ++ b) = bordersOf a ++ bordersOf b
  | [], b => rfl
  | r :: a, b => by rw [List.cons_append, bordersOf, bordersOf, bordersOf_app a b]; rfl
theorem bds_eq (l : List Int) : ∀ n, bdsOf l n = bordersOf (rcs l n)
  | 0 => rfl
  | n + 1 => by rw [bdsOf, rcs, bordersOf_app, bds_eq l n]; rfl
theorem bds_len (l : List Int) : ∀ n, (bdsOf l n).length = 2 * n
  | 0 => rfl
  | n + 1 => by rw [bdsOf, List.length_append, bds_len l n]; simp; omega
theorem xs_len (l : List Int) : ∀ n, (xsOf l n).length = 2 * n
  | 0 => rfl
  | n + 1 => by rw [xsOf, List.length_append, xs_len l n]; simp; omega
theorem ys_len (l : List Int) : ∀ n, (ysOf l n).length = 2 * n
  | 0 => rfl
  | n + 1 => by rw [ysOf, List.length_append, ys_len l n]; simp; omega
theorem bds_x (l : List Int) : ∀ n, (bdsOf l n).map (·.1) = xsOf l n
  | 0 => rfl
  | n + 1 => by rw [bdsOf, List.map_append, bds_x l n, xsOf]; rfl
theorem rcs_mem {l : List Int} {r : Rc} : ∀ {n : Nat}, r ∈ rcs l n → ∃ i, i < n ∧ r = (l.getD (i * 4) 0, l.getD (i * 4 + 1) 0, l.getD (i * 4 + 2) 0, l.getD (i * 4 + 3) 0)
  | 0, h => by simp [rcs] at h
  | n + 1, h => by
    rw [rcs, List.mem_append, List.mem_singleton] at h
    rcases h with h | h
    · obtain ⟨i, hi, e⟩ := rcs_mem h; exact ⟨i, by omega, e⟩
    · exact ⟨n, by omega, h⟩
theorem mem_xs {l : List Int} {i : Nat} : ∀ {n : Nat}, i < n → l.getD (i * 4) 0 ∈ xsOf l n ∧ l.getD (i * 4 + 2) 0 + 1 ∈ xsOf l n
  | 0, h => absurd h (by omega)
  | n + 1, h => by
    rw [xsOf, List.mem_append, List.mem_append]
    rcases Nat.lt_or_ge i n with h1 | h1
    · exact ⟨.inl (mem_xs h1).1, .inl (mem_xs h1).2⟩
    · obtain rfl : i = n := by omega
      exact ⟨.inr (by simp), .inr (by simp)⟩
theorem mem_ys {l : List Int} {i : Nat} : ∀ {n : Nat}, i < n → l.getD (i * 4 + 1) 0 ∈ ysOf l n ∧ l.getD (i * 4 + 3) 0 + 1 ∈ ysOf l n
  | 0, h => absurd h (by omega)
  | n + 1, h => by
    rw [ysOf, List.mem_append, List.mem_append]
    rcases Nat.lt_or_ge i n with h1 | h1
    · exact ⟨.inl (mem_ys h1).1, .inl (mem_ys h1).2⟩
    · obtain rfl : i = n := by omega
      exact ⟨.inr (by simp), .inr (by simp)⟩
theorem xs_mem {l : List Int} {z : Int} : ∀ {n : Nat}, z ∈ xsOf l n → ∃ i, i < n ∧ (z = l.getD (i * 4) 0 ∨ z = l.getD (i * 4 + 2) 0 + 1)
  | 0, h => by simp [xsOf] at h
  | n + 1, h => by
    rw [xsOf, List.mem_append] at h
    rcases h with h | h
    · obtain ⟨i, hi, e⟩ := xs_mem h; exact ⟨i, by omega, e⟩
    · exact ⟨n, by omega, by simpa using h⟩
theorem ys_mem {l : List Int} {z : Int} : ∀ {n : Nat}, z ∈ ysOf l n → ∃ i, i < n ∧ (z = l.getD (i * 4 + 1) 0 ∨ z = l.getD (i * 4 + 3) 0 + 1)
  | 0, h => by simp [ysOf] at h
  | n + 1, h => by
    rw [ysOf, List.mem_append] at h
    rcases h with h | h
    · obtain ⟨i, hi, e⟩ := ys_mem h; exact ⟨i, by omega, e⟩
    · exact ⟨n, by omega, by simpa using h⟩
theorem deep_app (a b : List Rc) (x y : Int) : deep (a ++ b) x y = deep a x y + deep b x y := by unfold deep; rw [List.filter_append, List.length_append]; omega
/-- How many of the first n rectangles have a place. -/
def deepN (l : List Int) (n : Nat) (x y : Int) : Int := deep (rcs l n) x y
theorem deepN_0 (l : List Int) (x y : Int) : deepN l 0 x y = 0 := rfl
theorem deepN_s (l : List Int) (n : Nat) (x y : Int) : deepN l (n + 1) x y = deepN l n x y + if inR (l.getD (n * 4) 0, l.getD (n * 4 + 1) 0, l.getD (n * 4 + 2) 0, l.getD (n * 4 + 3) 0) x y then 1 else 0 := by
  unfold deepN
  rw [rcs, deep_app, deep_cons]
  show _ + (_ + 0) = _
  omega
theorem deepN_bd (l : List Int) (x y : Int) : ∀ n : Nat, 0 ≤ deepN l n x y ∧ deepN l n x y ≤ n
  | 0 => by rw [deepN_0]; omega
  | n + 1 => by have := deepN_bd l x y n; rw [deepN_s]; split <;> omega
/-- A row of cuts: it does not fall, and holds these numbers. -/
def CutRow (mem c : List Int) : Prop := (∀ i, i + 1 < c.length → c.getD i 0 ≤ c.getD (i + 1) 0) ∧ ∀ z, z ∈ c ↔ z ∈ mem
theorem CutRow.le {m c : List Int} (h : CutRow m c) {i : Nat} : ∀ {j : Nat}, i ≤ j → j < c.length → c.getD i 0 ≤ c.getD j 0
  | 0, h1, _ => by obtain rfl : i = 0 := by omega
                   omega
  | j + 1, h1, h2 => by
    by_cases e : i = j + 1
    · subst e; omega
    · exact Int.le_trans (h.le (j := j) (by omega) (by omega)) (h.1 j h2)
theorem getD_mem {c : List Int} {i : Nat} (h : i < c.length) : c.getD i 0 ∈ c := by
  rw [List.getD_eq_getElem?_getD, List.getElem?_eq_getElem h]; exact List.getElem_mem h
theorem mem_getD {c : List Int} {z : Int} (h : z ∈ c) : ∃ i, i < c.length ∧ c.getD i 0 = z := by
  obtain ⟨i, hi, e⟩ := List.mem_iff_getElem.1 h
  exact ⟨i, hi, by rw [List.getD_eq_getElem?_getD, List.getElem?_eq_getElem hi]; exact e⟩
theorem CutRow.step {m c : List Int} (h : CutRow m c) {i : Nat} (hi : i < c.length - 1) {z : Int} (hz : z ∈ m) : z ≤ c.getD i 0 ∨ c.getD (i + 1) 0 ≤ z := by
  obtain ⟨k, hk, rfl⟩ := mem_getD ((h.2 z).2 hz)
  rcases Nat.lt_or_ge i k with h1 | h1
  · exact .inr (h.le (by omega) hk)
  · exact .inl (h.le h1 (by omega))
theorem CutRow.ends {m c d : List Int} (h : CutRow m c) (g : CutRow m d) (hm : c ≠ []) : d ≠ [] ∧ c.getD 0 0 = d.getD 0 0 ∧ c.getD (c.length - 1) 0 = d.getD (d.length - 1) 0 := by
  have hc : 0 < c.length := List.length_pos_iff.2 hm
  have hd : 0 < d.length := by
    obtain ⟨k, hk, _⟩ := mem_getD ((g.2 _).2 ((h.2 _).1 (getD_mem hc)))
    omega
  obtain ⟨a, ha, ea⟩ := mem_getD ((h.2 _).2 ((g.2 _).1 (getD_mem hd)))
  obtain ⟨b, hb, eb⟩ := mem_getD ((g.2 _).2 ((h.2 _).1 (getD_mem hc)))
  obtain ⟨a', ha', ea'⟩ := mem_getD ((h.2 _).2 ((g.2 _).1 (getD_mem (c := d) (i := d.length - 1) (by omega))))
  obtain ⟨b', hb', eb'⟩ := mem_getD ((g.2 _).2 ((h.2 _).1 (getD_mem (c := c) (i := c.length - 1) (by omega))))
  have l1 := h.le (i := 0) (j := a) (by omega) ha
  have l2 := g.le (i := 0) (j := b) (by omega) hb
  have l3 := h.le (i := a') (j := c.length - 1) (by omega) (by omega)
  have l4 := g.le (i := b') (j := d.length - 1) (by omega) (by omega)
  exact ⟨List.length_pos_iff.1 hd, by omega, by omega⟩
theorem CutRow.cutsX {l c : List Int} {n : Nat} (h : CutRow (xsOf l n) c) : CutsX (rcs l n) (fun i => c.getD i 0) (c.length - 1) :=
  ⟨fun i hi => h.1 i (by omega), fun i hi r hr => by
    obtain ⟨k, hk, rfl⟩ := rcs_mem hr
    exact ⟨h.step hi (mem_xs hk).1, h.step hi (mem_xs hk).2⟩⟩
theorem CutRow.cutsY {l c : List Int} {n : Nat} (h : CutRow (ysOf l n) c) : CutsY (rcs l n) (fun i => c.getD i 0) (c.length - 1) :=
  ⟨fun i hi => h.1 i (by omega), fun i hi r hr => by
    obtain ⟨k, hk, rfl⟩ := rcs_mem hr
    exact ⟨h.step hi (mem_ys hk).1, h.step hi (mem_ys hk).2⟩⟩
/-- One row of cells, summed. -/
def rowS (f : Int → Int) (d : List Int) : Nat → Int := steps (fun y => ind (f y)) fun i => d.getD i 0
def gridS (f : Int → Int → Int) (c d : List Int) : Nat → Int := steps (fun x => rowS (f x) d (d.length - 1)) fun i => c.getD i 0
theorem rowS_0 (f : Int → Int) (d : List Int) : rowS f d 0 = 0 := rfl
theorem rowS_s (f : Int → Int) (d : List Int) (k : Nat) : rowS f d (k + 1) = rowS f d k + (d.getD (k + 1) 0 - d.getD k 0) * ind (f (d.getD k 0)) := rfl
theorem gridS_0 (f : Int → Int → Int) (c d : List Int) : gridS f c d 0 = 0 := rfl
theorem gridS_s (f : Int → Int → Int) (c d : List Int) (k : Nat) : gridS f c d (k + 1) = gridS f c d k + (c.getD (k + 1) 0 - c.getD k 0) * rowS (f (c.getD k 0)) d (d.length - 1) := rfl
theorem grid_same {l c d c' d' : List Int} {n : Nat} (hc : CutRow (xsOf l n) c) (hd : CutRow (ysOf l n) d) (hc' : CutRow (xsOf l n) c') (hd' : CutRow (ysOf l n) d') : gridS (deepN l n) c d (c.length - 1) = gridS (deepN l n) c' d' (c'.length - 1) := by
  by_cases e : c = []
  · have e' : c' = [] := by
      rcases Nat.eq_zero_or_pos c'.length with h | h
      · exact List.length_eq_zero_iff.1 h
      · have := (hc'.ends hc (List.length_pos_iff.1 h)).1; exact absurd e this
    rw [e, e']; rfl
  · have n0 : 0 < n := by
      have h1 : 0 < c.length := List.length_pos_iff.2 e
      have := (hc.2 _).1 (getD_mem h1)
      obtain ⟨i, hi, _⟩ := xs_mem this
      omega
    have ed : d ≠ [] := fun h => by have := (hd.2 _).2 (mem_ys n0).1; rw [h] at this; simp at this
    have a := area_cuts hc.cutsX hd.cutsY
    have b := area_cuts hc'.cutsX hd'.cutsY
    obtain ⟨_, x1, x2⟩ := hc.ends hc' e
    obtain ⟨_, y1, y2⟩ := hd.ends hd' ed
    rw [x1, x2, y1, y2] at a
    exact a.symm.trans b
/-- The x of border i. -/
def bx (bs : List Bd) (i : Nat) : Int := (bs.getD i (0, 0, 0, 0)).1
/-- The depth at a row, of the first i borders. -/
def so (bs : List Bd) (i : Nat) (y : Int) : Int := tot (vY y) (bs.take i)
theorem so_0 (bs : List Bd) (y : Int) : so bs 0 y = 0 := by unfold so; rw [List.take_zero]; rfl
theorem so_s {bs : List Bd} {i : Nat} (h : i < bs.length) (y : Int) : so bs (i + 1) y = so bs i y + vY y (bs.getD i (0, 0, 0, 0)) := by
  unfold so
  rw [List.take_succ_eq_append_getElem h, tot_app, List.getD_eq_getElem?_getD, List.getElem?_eq_getElem h]
  show _ + (_ + 0) = _
  simp
/-- Sorted by x. -/
def SortX (bs : List Bd) : Prop := ∀ u v, u < v → v < bs.length → bx bs u ≤ bx bs v
theorem bx_at {bs : List Bd} {i : Nat} (h : i < bs.length) : bx bs i = (bs[i]).1 := by unfold bx; rw [List.getD_eq_getElem?_getD, List.getElem?_eq_getElem h]; rfl
theorem so_deep {l : List Int} {n : Nat} {bs : List Bd} (hl : ∀ i, i < n → l.getD (i * 4) 0 ≤ l.getD (i * 4 + 2) 0) (hp : bs.Perm (bdsOf l n)) (hs : SortX bs) {i : Nat} (hi : i + 1 < bs.length) (hlt : bx bs i < bx bs (i + 1)) (y : Int) : so bs (i + 1) y = deepN l n (bx bs i) y := by
  unfold so deepN
  refine tot_strip (b := bs.drop (i + 1)) (fun r hr => ?_) (bds_eq l n ▸ hp) (List.take_append_drop _ _).symm (fun c hc => ?_) fun c hc => ?_
  · obtain ⟨k, hk, rfl⟩ := rcs_mem hr
    exact hl k hk
  · obtain ⟨k, hk, rfl⟩ := List.mem_iff_getElem.1 hc
    rw [List.length_take] at hk
    rw [List.getElem_take, ← bx_at (by omega)]
    rcases Nat.lt_or_ge k i with h1 | h1
    · exact hs k i h1 (by omega)
    · rw [show k = i from by omega]; omega
  · obtain ⟨k, hk, rfl⟩ := List.mem_iff_getElem.1 hc
    rw [List.length_drop] at hk
    rw [List.getElem_drop, ← bx_at (by omega)]
    rcases Nat.lt_or_ge 0 k with h1 | h1
    · have := hs (i + 1) (i + 1 + k) (by omega) (by omega); omega
    · rw [show i + 1 + k = i + 1 from by omega]; exact hlt
/-- What the sweep has summed up after i borders. -/
def areaS (bs : List Bd) (d : List Int) : Nat → Int
  | 0 => 0
  | i + 1 => areaS bs d i + if 0 < i then (bx bs i - bx bs (i - 1)) * rowS (so bs i) d (d.length - 1) else 0
theorem areaS_0 (bs : List Bd) (d : List Int) : areaS bs d 0 = 0 := rfl
theorem areaS_1 (bs : List Bd) (d : List Int) : areaS bs d 1 = 0 := rfl
theorem areaS_s (bs : List Bd) (d : List Int) (i : Nat) : areaS bs d (i + 2) = areaS bs d (i + 1) + (bx bs (i + 1) - bx bs i) * rowS (so bs (i + 1)) d (d.length - 1) := by rw [areaS, if_pos (by omega)]; rfl
theorem rowS_congr {f g : Int → Int} (h : ∀ y, f y = g y) (d : List Int) (k : Nat) : rowS f d k = rowS g d k := by rw [show f = g from funext h]
theorem areaS_grid {l d : List Int} {n : Nat} {bs : List Bd} (hl : ∀ i, i < n → l.getD (i * 4) 0 ≤ l.getD (i * 4 + 2) 0) (hp : bs.Perm (bdsOf l n)) (hs : SortX bs) : ∀ i, i < bs.length → areaS bs d (i + 1) = gridS (deepN l n) (bs.map (·.1)) d i
  | 0, _ => rfl
  | i + 1, h => by
    have e : ∀ k, k < bs.length → (bs.map (·.1)).getD k 0 = bx bs k := fun k hk => by
      rw [List.getD_eq_getElem?_getD, List.getElem?_map, List.getElem?_eq_getElem hk, bx_at hk]; rfl
    rw [areaS_s, areaS_grid hl hp hs i (by omega), gridS_s, e i (by omega), e (i + 1) h]
    rcases Int.lt_or_le (bx bs i) (bx bs (i + 1)) with h1 | h1
    · rw [rowS_congr (so_deep hl hp hs h h1)]
    · have : bx bs (i + 1) - bx bs i = 0 := by have := hs i (i + 1) (by omega) h; omega
      rw [this, Int.zero_mul, Int.zero_mul]
theorem cutRow_bs {l : List Int} {n : Nat} {bs : List Bd} (hp : bs.Perm (bdsOf l n)) (hs : SortX bs) : CutRow (xsOf l n) (bs.map (·.1)) := by
  have e : ∀ k, k < bs.length → (bs.map (·.1)).getD k 0 = bx bs k := fun k hk => by
    rw [List.getD_eq_getElem?_getD, List.getElem?_map, List.getElem?_eq_getElem hk, bx_at hk]; rfl
  refine ⟨fun i hi => ?_, fun z => ?_⟩
  · rw [List.length_map] at hi
    rw [e i (by omega), e (i + 1) hi]
    exact hs i (i + 1) (by omega) hi
  · rw [← bds_x l n]
    exact (hp.map (·.1)).mem_iff
/-- The sweep's area is the cells'. -/
theorem area_same {l c d d' : List Int} {n : Nat} {bs : List Bd} (hl : ∀ i, i < n → l.getD (i * 4) 0 ≤ l.getD (i * 4 + 2) 0) (hp : bs.Perm (bdsOf l n)) (hs : SortX bs) (hd : CutRow (ysOf l n) d) (hc : CutRow (xsOf l n) c) (hd' : CutRow (ysOf l n) d') : areaS bs d bs.length = gridS (deepN l n) c d' (c.length - 1) := by
  rcases Nat.eq_zero_or_pos bs.length with h | h
  · have hb : bs = [] := List.length_eq_zero_iff.1 h
    have := grid_same (cutRow_bs hp hs) hd hc hd'
    rw [hb] at this ⊢
    exact this
  · have := areaS_grid (d := d) hl hp hs (bs.length - 1) (by omega)
    rw [show bs.length - 1 + 1 = bs.length from by omega] at this
    rw [this, ← grid_same (cutRow_bs hp hs) hd hc hd', List.length_map]
/-- The most rectangles over one place. -/
def DepthIs (l : List Int) (n : Nat) (d : Int) : Prop := (∀ x y, deepN l n x y ≤ d) ∧ 0 ≤ d ∧ (d = 0 ∨ ∃ x y, deepN l n x y = d)
theorem DepthIs.uniq {l : List Int} {n : Nat} {d e : Int} (h : DepthIs l n d) (g : DepthIs l n e) : d = e := by
  obtain ⟨h1, h2, h3⟩ := h
  obtain ⟨g1, g2, g3⟩ := g
  have a : d ≤ e := by rcases h3 with rfl | ⟨x, y, rfl⟩; exact g2; exact g1 x y
  have b : e ≤ d := by rcases g3 with rfl | ⟨x, y, rfl⟩; exact h2; exact h1 x y
  omega
/-- Where a number lies between cuts. -/
theorem CutRow.find {m c : List Int} (h : CutRow m c) {x : Int} : ∀ k, k < c.length → c.getD 0 0 ≤ x → x < c.getD k 0 → ∃ i, i < k ∧ c.getD i 0 ≤ x ∧ x < c.getD (i + 1) 0
  | 0, _, h1, h2 => by omega
  | k + 1, hk, h1, h2 => by
    rcases Int.lt_or_le x (c.getD k 0) with g | g
    · obtain ⟨i, hi, e⟩ := h.find k (by omega) h1 g; exact ⟨i, by omega, e⟩
    · exact ⟨k, by omega, g, h2⟩
theorem deepN_pos {l : List Int} {x y : Int} : ∀ {n : Nat}, 0 < deepN l n x y → ∃ i, i < n ∧ l.getD (i * 4) 0 ≤ x ∧ x ≤ l.getD (i * 4 + 2) 0 ∧ l.getD (i * 4 + 1) 0 ≤ y ∧ y ≤ l.getD (i * 4 + 3) 0
  | 0, h => by rw [deepN_0] at h; omega
  | n + 1, h => by
    rw [deepN_s] at h
    by_cases hc : inR (l.getD (n * 4) 0, l.getD (n * 4 + 1) 0, l.getD (n * 4 + 2) 0, l.getD (n * 4 + 3) 0) x y = true
    · unfold inR at hc
      simp only [Bool.and_eq_true, decide_eq_true_eq] at hc
      exact ⟨n, by omega, hc.1, hc.2.1, hc.2.2.1, hc.2.2.2⟩
    · rw [if_neg hc] at h
      have h2 : 0 < deepN l n x y := by omega
      obtain ⟨i, hi, e⟩ := deepN_pos h2
      exact ⟨i, by omega, e⟩
/-- Each place lies in a cell of the same depth. -/
theorem cell_of {l c d : List Int} {n : Nat} (hc : CutRow (xsOf l n) c) (hd : CutRow (ysOf l n) d) {x y : Int} (h : 0 < deepN l n x y) :
    ∃ i k, i + 1 < c.length ∧ k + 1 < d.length ∧ c.getD i 0 < c.getD (i + 1) 0 ∧ d.getD k 0 < d.getD (k + 1) 0 ∧ deepN l n (c.getD i 0) (d.getD k 0) = deepN l n x y := by
  obtain ⟨q, hq, x1, x2, y1, y2⟩ := deepN_pos h
  obtain ⟨a, ha, ea⟩ := mem_getD ((hc.2 _).2 (mem_xs hq).1)
  obtain ⟨b, hb, eb⟩ := mem_getD ((hc.2 _).2 (mem_xs hq).2)
  obtain ⟨a', ha', ea'⟩ := mem_getD ((hd.2 _).2 (mem_ys hq).1)
  obtain ⟨b', hb', eb'⟩ := mem_getD ((hd.2 _).2 (mem_ys hq).2)
  have l1 := hc.le (i := 0) (j := a) (by omega) ha
  have l2 := hd.le (i := 0) (j := a') (by omega) ha'
  obtain ⟨i, hi, i1, i2⟩ := hc.find (x := x) b hb (by omega) (by omega)
  obtain ⟨k, hk, k1, k2⟩ := hd.find (x := y) b' hb' (by omega) (by omega)
  refine ⟨i, k, by omega, by omega, by omega, by omega, ?_⟩
  have e1 := deep_const_x (y := y) (hc.cutsX.2 i (by omega)) x i1 i2
  have e2 := deep_const_y (x := c.getD i 0) (hd.cutsY.2 k (by omega)) y k1 k2
  unfold deepN
  rw [e1, e2]
/-- What the sweep's depth is after i borders. -/
def maxL (f : Int → Int) : List Int → Int
  | [] => 0
  | [a] => f a
  | a :: b :: r => max (f a) (maxL f (b :: r))
theorem maxL_ge {f : Int → Int} : ∀ {d : List Int} {y : Int}, y ∈ d → f y ≤ maxL f d
  | [a], y, h => by simp at h; subst h; exact Int.le_refl _
  | a :: b :: r, y, h => by
    rw [maxL]
    rcases List.mem_cons.1 h with rfl | h
    · omega
    · have := maxL_ge (f := f) h; omega
theorem maxL_at {f : Int → Int} : ∀ {d : List Int}, d ≠ [] → ∃ y, y ∈ d ∧ f y = maxL f d
  | [a], _ => ⟨a, by simp, rfl⟩
  | a :: b :: r, _ => by
    obtain ⟨y, hy, e⟩ := maxL_at (f := f) (d := b :: r) (by simp)
    rw [maxL]
    rcases Int.le_total (f a) (maxL f (b :: r)) with h | h
    · exact ⟨y, by simp [List.mem_cons.1 hy], by omega⟩
    · exact ⟨a, by simp, by omega⟩
/-- m is the greatest of f over the row. -/
def MaxIs (f : Int → Int) (d : List Int) (m : Int) : Prop := (∀ y ∈ d, f y ≤ m) ∧ ∃ y ∈ d, f y = m
theorem MaxIs.ex {f : Int → Int} {d : List Int} (h : d ≠ []) : MaxIs f d (maxL f d) := ⟨fun _ hy => maxL_ge hy, maxL_at h⟩
theorem MaxIs.uniq {f : Int → Int} {d : List Int} {m k : Int} (h : MaxIs f d m) (g : MaxIs f d k) : m = k := by
  obtain ⟨y, hy, e⟩ := h.2
  obtain ⟨z, hz, e'⟩ := g.2
  have a := h.1 z hz
  have b := g.1 y hy
  omega
def depS (bs : List Bd) (d : List Int) : Nat → Int
  | 0 => 0
  | i + 1 => if 0 < i ∧ bx bs (i - 1) < bx bs i then max (depS bs d i) (maxL (so bs i) d) else depS bs d i
theorem depS_0 (bs : List Bd) (d : List Int) : depS bs d 0 = 0 := rfl
theorem depS_yes {bs : List Bd} {d : List Int} {i : Nat} (h : 0 < i ∧ bx bs (i - 1) < bx bs i) : depS bs d (i + 1) = max (depS bs d i) (maxL (so bs i) d) := by rw [depS, if_pos h]
theorem depS_no {bs : List Bd} {d : List Int} {i : Nat} (h : ¬ (0 < i ∧ bx bs (i - 1) < bx bs i)) : depS bs d (i + 1) = depS bs d i := by rw [depS, if_neg h]
theorem depS_mono (bs : List Bd) (d : List Int) : ∀ {i j : Nat}, i ≤ j → depS bs d i ≤ depS bs d j
  | i, 0, h => by obtain rfl : i = 0 := by omega
                  omega
  | i, j + 1, h => by
    by_cases e : i = j + 1
    · subst e; omega
    · refine Int.le_trans (depS_mono bs d (i := i) (j := j) (by omega)) ?_
      by_cases c : 0 < j ∧ bx bs (j - 1) < bx bs j
      · rw [depS_yes c]; omega
      · rw [depS_no c]; omega
theorem depS_at (bs : List Bd) {d : List Int} (hd : d ≠ []) : ∀ i, i ≤ bs.length → depS bs d i = 0 ∨ ∃ k, k + 1 < bs.length ∧ bx bs k < bx bs (k + 1) ∧ ∃ y ∈ d, so bs (k + 1) y = depS bs d i
  | 0, _ => .inl rfl
  | i + 1, h => by
    have ih := depS_at bs hd i (by omega)
    by_cases c : 0 < i ∧ bx bs (i - 1) < bx bs i
    · rw [depS_yes c]
      rcases Int.le_total (depS bs d i) (maxL (so bs i) d) with h1 | h1
      · obtain ⟨y, hy, e⟩ := maxL_at (f := so bs i) hd
        refine .inr ⟨i - 1, by omega, by rw [show i - 1 + 1 = i from by omega]; exact c.2, y, hy, ?_⟩
        rw [show i - 1 + 1 = i from by omega, e]; omega
      · rw [show max (depS bs d i) (maxL (so bs i) d) = depS bs d i from by omega]; exact ih
    · rw [depS_no c]; exact ih
theorem depS_is {l d : List Int} {n : Nat} {bs : List Bd} (hl : ∀ i, i < n → l.getD (i * 4) 0 ≤ l.getD (i * 4 + 2) 0) (hp : bs.Perm (bdsOf l n)) (hs : SortX bs) (hd : CutRow (ysOf l n) d) : DepthIs l n (depS bs d bs.length) := by
  have hm : ∀ i, 0 ≤ depS bs d i := fun i => depS_mono bs d (i := 0) (Nat.zero_le i)
  refine ⟨fun x y => ?_, hm _, ?_⟩
  · rcases Int.lt_or_le 0 (deepN l n x y) with h | h
    · obtain ⟨i, k, h1, h2, h3, h4, h5⟩ := cell_of (cutRow_bs hp hs) hd h
      rw [List.length_map] at h1
      have e : ∀ k, k < bs.length → (bs.map (·.1)).getD k 0 = bx bs k := fun k hk => by
        rw [List.getD_eq_getElem?_getD, List.getElem?_map, List.getElem?_eq_getElem hk, bx_at hk]; rfl
      rw [e i (by omega), e (i + 1) h1] at h3
      rw [e i (by omega)] at h5
      rw [← h5, ← so_deep hl hp hs h1 h3]
      refine Int.le_trans (maxL_ge (getD_mem (c := d) (i := k) (by omega))) (Int.le_trans ?_ (depS_mono bs d (i := i + 1 + 1) (by omega)))
      rw [depS_yes ⟨by omega, h3⟩]; omega
    · exact Int.le_trans h (hm _)
  · by_cases he : d = []
    · left
      have n0 : n = 0 := by
        rcases Nat.eq_zero_or_pos n with h | h
        · exact h
        · have := (hd.2 _).2 (mem_ys (l := l) h).1; rw [he] at this; simp at this
      have : bs = [] := List.length_eq_zero_iff.1 (by rw [hp.length_eq, bds_len, n0])
      rw [this]; rfl
    · rcases depS_at bs he bs.length (Nat.le_refl _) with h | ⟨k, h1, h2, y, _, h3⟩
      · exact .inl h
      · exact .inr ⟨bx bs k, y, by rw [← so_deep hl hp hs h1 h2]; exact h3⟩
/-- The cells' depth: along one row, then row by row. -/
def depK (a : Int) (f : Int → Int) (d : List Int) : Nat → Int
  | 0 => a
  | k + 1 => if d.getD (k + 1) 0 = d.getD k 0 then depK a f d k else max (depK a f d k) (f (d.getD k 0))
def depI (f : Int → Int → Int) (c d : List Int) : Nat → Int
  | 0 => 0
  | i + 1 => if c.getD (i + 1) 0 = c.getD i 0 then depI f c d i else depK (depI f c d i) (f (c.getD i 0)) d (d.length - 1)
theorem depK_0 (a : Int) (f : Int → Int) (d : List Int) : depK a f d 0 = a := rfl
theorem depK_eq {a : Int} {f : Int → Int} {d : List Int} {k : Nat} (h : d.getD (k + 1) 0 = d.getD k 0) : depK a f d (k + 1) = depK a f d k := by rw [depK, if_pos h]
theorem depK_ne {a : Int} {f : Int → Int} {d : List Int} {k : Nat} (h : ¬ d.getD (k + 1) 0 = d.getD k 0) : depK a f d (k + 1) = max (depK a f d k) (f (d.getD k 0)) := by rw [depK, if_neg h]
theorem depI_0 (f : Int → Int → Int) (c d : List Int) : depI f c d 0 = 0 := rfl
theorem depI_eq {f : Int → Int → Int} {c d : List Int} {k : Nat} (h : c.getD (k + 1) 0 = c.getD k 0) : depI f c d (k + 1) = depI f c d k := by rw [depI, if_pos h]
theorem depI_ne {f : Int → Int → Int} {c d : List Int} {k : Nat} (h : ¬ c.getD (k + 1) 0 = c.getD k 0) : depI f c d (k + 1) = depK (depI f c d k) (f (c.getD k 0)) d (d.length - 1) := by rw [depI, if_neg h]
theorem depK_mono (a : Int) (f : Int → Int) (d : List Int) {i : Nat} : ∀ {j : Nat}, i ≤ j → depK a f d i ≤ depK a f d j
  | 0, h => by obtain rfl : i = 0 := by omega
               omega
  | j + 1, h => by
    by_cases e : i = j + 1
    · subst e; omega
    · refine Int.le_trans (depK_mono a f d (i := i) (j := j) (by omega)) ?_
      by_cases c : d.getD (j + 1) 0 = d.getD j 0
      · rw [depK_eq c]; omega
      · rw [depK_ne c]; omega
theorem depI_mono (f : Int → Int → Int) (c d : List Int) {i : Nat} : ∀ {j : Nat}, i ≤ j → depI f c d i ≤ depI f c d j
  | 0, h => by obtain rfl : i = 0 := by omega
               omega
  | j + 1, h => by
    by_cases e : i = j + 1
    · subst e; omega
    · refine Int.le_trans (depI_mono f c d (i := i) (j := j) (by omega)) ?_
      by_cases h1 : c.getD (j + 1) 0 = c.getD j 0
      · rw [depI_eq h1]; omega
      · rw [depI_ne h1]; exact depK_mono _ _ _ (Nat.zero_le _)
theorem depK_at {a : Int} {f : Int → Int} {d : List Int} : ∀ k, depK a f d k = a ∨ ∃ y, f y = depK a f d k
  | 0 => .inl rfl
  | k + 1 => by
    have ih := depK_at (a := a) (f := f) (d := d) k
    by_cases c : d.getD (k + 1) 0 = d.getD k 0
    · rw [depK_eq c]; exact ih
    · rw [depK_ne c]
      rcases Int.le_total (depK a f d k) (f (d.getD k 0)) with h1 | h1
      · exact .inr ⟨d.getD k 0, by omega⟩
      · rw [show max (depK a f d k) (f (d.getD k 0)) = depK a f d k from by omega]; exact ih
theorem depI_at {f : Int → Int → Int} {c d : List Int} : ∀ i, depI f c d i = 0 ∨ ∃ x y, f x y = depI f c d i
  | 0 => .inl rfl
  | i + 1 => by
    have ih := depI_at (f := f) (c := c) (d := d) i
    by_cases h1 : c.getD (i + 1) 0 = c.getD i 0
    · rw [depI_eq h1]; exact ih
    · rw [depI_ne h1]
      rcases depK_at (a := depI f c d i) (f := f (c.getD i 0)) (d := d) (d.length - 1) with h | ⟨y, h⟩
      · rw [h]; exact ih
      · exact .inr ⟨_, y, h⟩
theorem depI_is {l c d : List Int} {n : Nat} (hc : CutRow (xsOf l n) c) (hd : CutRow (ysOf l n) d) : DepthIs l n (depI (deepN l n) c d (c.length - 1)) := by
  have hm : ∀ i, 0 ≤ depI (deepN l n) c d i := fun i => depI_mono _ c d (i := 0) (Nat.zero_le i)
  refine ⟨fun x y => ?_, hm _, depI_at _⟩
  rcases Int.lt_or_le 0 (deepN l n x y) with h | h
  · obtain ⟨i, k, h1, h2, h3, h4, h5⟩ := cell_of hc hd h
    rw [← h5]
    refine Int.le_trans ?_ (depI_mono _ c d (i := i + 1) (by omega))
    rw [depI_ne (by omega)]
    refine Int.le_trans ?_ (depK_mono _ _ d (i := k + 1) (by omega))
    rw [depK_ne (by omega)]; omega
  · exact Int.le_trans h (hm _)
theorem depth_same {l c d d' : List Int} {n : Nat} {bs : List Bd} (hl : ∀ i, i < n → l.getD (i * 4) 0 ≤ l.getD (i * 4 + 2) 0) (hp : bs.Perm (bdsOf l n)) (hs : SortX bs) (hd : CutRow (ysOf l n) d) (hc : CutRow (xsOf l n) c) (hd' : CutRow (ysOf l n) d') : depS bs d bs.length = depI (deepN l n) c d' (c.length - 1) :=
  (depS_is hl hp hs hd).uniq (depI_is hc hd')
end Go.Dam.Klee

/-
  Plain laws of ranges, no program in sight: the least and the sum of a range, and what an operation makes of numbers. Conditions: none.
-/
namespace Go.Dam
set_option linter.unusedVariables false
/-- The least of the numbers from lo to lo + k. -/
def leastF (f : Nat → Int) (lo : Nat) : Nat → Int
  | 0 => f lo
  | k + 1 => min (leastF f lo k) (f (lo + (k + 1)))
/-- Their sum. -/
def sumF (f : Nat → Int) (lo : Nat) : Nat → Int
  | 0 => f lo
  | k + 1 => sumF f lo k + f (lo + (k + 1))
theorem leastF_0 (f : Nat → Int) (lo : Nat) : leastF f lo 0 = f lo := rfl
theorem sumF_0 (f : Nat → Int) (lo : Nat) : sumF f lo 0 = f lo := rfl
theorem leastF_succ (f : Nat → Int) (lo k : Nat) : leastF f lo (k + 1) = min (leastF f lo k) (f (lo + (k + 1))) := rfl
theorem sumF_succ (f : Nat → Int) (lo k : Nat) : sumF f lo (k + 1) = sumF f lo k + f (lo + (k + 1)) := rfl
theorem leastF_congr {f g : Nat → Int} {lo : Nat} : ∀ k, (∀ i, lo ≤ i → i ≤ lo + k → f i = g i) → leastF f lo k = leastF g lo k
  | 0, h => h lo (by omega) (by omega)
  | k + 1, h => by rw [leastF_succ, leastF_succ, leastF_congr k (fun i a b => h i a (by omega)), h (lo + (k + 1)) (by omega) (by omega)]
theorem sumF_congr {f g : Nat → Int} {lo : Nat} : ∀ k, (∀ i, lo ≤ i → i ≤ lo + k → f i = g i) → sumF f lo k = sumF g lo k
  | 0, h => h lo (by omega) (by omega)
  | k + 1, h => by rw [sumF_succ, sumF_succ, sumF_congr k (fun i a b => h i a (by omega)), h (lo + (k + 1)) (by omega) (by omega)]
theorem leastF_split (f : Nat → Int) (lo a : Nat) : ∀ b, leastF f lo (a + 1 + b) = min (leastF f lo a) (leastF f (lo + a + 1) b)
  | 0 => by rw [Nat.add_zero, leastF_succ, leastF_0, Nat.add_assoc]
  | b + 1 => by
    rw [show a + 1 + (b + 1) = (a + 1 + b) + 1 from by omega, leastF_succ, leastF_split f lo a b, leastF_succ, show lo + (a + 1 + b + 1) = lo + a + 1 + (b + 1) from by omega]
    omega
theorem sumF_split (f : Nat → Int) (lo a : Nat) : ∀ b, sumF f lo (a + 1 + b) = sumF f lo a + sumF f (lo + a + 1) b
  | 0 => by rw [Nat.add_zero, sumF_succ, sumF_0, Nat.add_assoc]
  | b + 1 => by
    rw [show a + 1 + (b + 1) = (a + 1 + b) + 1 from by omega, sumF_succ, sumF_split f lo a b, sumF_succ, show lo + (a + 1 + b + 1) = lo + a + 1 + (b + 1) from by omega]
    omega
theorem leastF_const (c : Int) (lo : Nat) : ∀ k, leastF (fun _ => c) lo k = c
  | 0 => rfl
  | k + 1 => by rw [leastF_succ, leastF_const c lo k]; omega
theorem sumF_const (c : Int) (lo : Nat) : ∀ k : Nat, sumF (fun _ => c) lo k = c * ((k : Int) + 1)
  | 0 => by rw [sumF_0]; omega
  | k + 1 => by rw [sumF_succ, sumF_const c lo k]; push_cast; rw [Int.mul_add, Int.mul_add, Int.mul_add]; omega
theorem leastF_add (f : Nat → Int) (c : Int) (lo : Nat) : ∀ k, leastF (fun i => f i + c) lo k = leastF f lo k + c
  | 0 => rfl
  | k + 1 => by rw [leastF_succ, leastF_add f c lo k, leastF_succ]; omega
theorem sumF_add (f : Nat → Int) (c : Int) (lo : Nat) : ∀ k : Nat, sumF (fun i => f i + c) lo k = sumF f lo k + c * ((k : Int) + 1)
  | 0 => by rw [sumF_0, sumF_0]; omega
  | k + 1 => by rw [sumF_succ, sumF_add f c lo k, sumF_succ]; push_cast; rw [Int.mul_add, Int.mul_add, Int.mul_add]; omega
theorem leastF_bound {f : Nat → Int} {lo : Nat} {M : Int} : ∀ k, (∀ i, lo ≤ i → i ≤ lo + k → -M ≤ f i ∧ f i ≤ M) → -M ≤ leastF f lo k ∧ leastF f lo k ≤ M
  | 0, h => h lo (by omega) (by omega)
  | k + 1, h => by
    have a := leastF_bound k (fun i a b => h i a (by omega))
    have b := h (lo + (k + 1)) (by omega) (by omega)
    rw [leastF_succ]; omega
theorem sumF_bound {f : Nat → Int} {lo : Nat} {M : Int} : ∀ k : Nat, (∀ i, lo ≤ i → i ≤ lo + k → -M ≤ f i ∧ f i ≤ M) → -(M * ((k : Int) + 1)) ≤ sumF f lo k ∧ sumF f lo k ≤ M * ((k : Int) + 1)
  | 0, h => by have := h lo (by omega) (by omega); rw [sumF_0]; omega
  | k + 1, h => by
    have a := sumF_bound k (fun i a b => h i a (by omega))
    have b := h (lo + (k + 1)) (by omega) (by omega)
    rw [sumF_succ]
    push_cast
    rw [Int.mul_add] at a ⊢
    rw [Int.mul_add]
    omega
/-- What an operation makes of numbers. -/
def opF (kind olo ohi c : Int) (f : Nat → Int) (i : Nat) : Int := if olo ≤ (i : Int) ∧ (i : Int) ≤ ohi then (if kind = 1 then f i + c else if kind = 2 then c else f i) else f i
theorem opF_out {kind olo ohi c : Int} {f : Nat → Int} {i : Nat} (h : (i : Int) < olo ∨ ohi < (i : Int)) : opF kind olo ohi c f i = f i := by unfold opF; rw [if_neg (by omega)]
theorem opF_add {olo ohi c : Int} {f : Nat → Int} {i : Nat} (h : olo ≤ (i : Int) ∧ (i : Int) ≤ ohi) : opF 1 olo ohi c f i = f i + c := by unfold opF; rw [if_pos h, if_pos rfl]
theorem opF_set {olo ohi c : Int} {f : Nat → Int} {i : Nat} (h : olo ≤ (i : Int) ∧ (i : Int) ≤ ohi) : opF 2 olo ohi c f i = c := by unfold opF; rw [if_pos h, if_neg (by decide), if_pos rfl]
theorem opF_ask {kind olo ohi c : Int} {f : Nat → Int} {i : Nat} (h1 : kind ≠ 1) (h2 : kind ≠ 2) : opF kind olo ohi c f i = f i := by unfold opF; rw [if_neg h1, if_neg h2]; split <;> rfl
theorem opF_congr {kind olo ohi c : Int} {f g : Nat → Int} {i : Nat} (h : f i = g i) : opF kind olo ohi c f i = opF kind olo ohi c g i := by unfold opF; rw [h]
attribute [irreducible] leastF sumF opF
/-- What a range answers: the least and the sum of what the operation reaches of it, if it does. -/
def AnsR (f : Nat → Int) (olo ohi : Int) (lo k : Nat) (ls sm : Int) (any : Bool) : Prop :=
  (any = false ∧ ls = 0 ∧ sm = 0 ∧ (ohi < (lo : Int) ∨ ((lo + k : Nat) : Int) < olo)) ∨
  (any = true ∧ ∃ p q : Nat, (p : Int) = max olo (lo : Int) ∧ ((p + q : Nat) : Int) = min ohi ((lo + k : Nat) : Int) ∧ ls = leastF f p q ∧ sm = sumF f p q)
/-- Two parts, one behind the other. -/
theorem AnsR.join {f : Nat → Int} {olo ohi : Int} {lo a b : Nat} {l1 s1 l2 s2 : Int} {any1 any2 : Bool} (ho : olo ≤ ohi) (h : AnsR f olo ohi lo a l1 s1 any1) (g : AnsR f olo ohi (lo + a + 1) b l2 s2 any2) :
    AnsR f olo ohi lo (a + 1 + b) (if any1 then (if any2 then min l1 l2 else l1) else l2) (if any1 then (if any2 then s1 + s2 else s1) else s2) (any1 || any2) := by
  rcases h with ⟨rfl, rfl, rfl, h⟩ | ⟨rfl, p, q, hp, hq, rfl, rfl⟩
  · rcases g with ⟨rfl, rfl, rfl, g⟩ | ⟨rfl, p, q, hp, hq, rfl, rfl⟩
    · exact .inl ⟨rfl, rfl, rfl, by push_cast at *; omega⟩
    · exact .inr ⟨rfl, p, q, by push_cast at *; omega, by push_cast at *; omega, rfl, rfl⟩
  · rcases g with ⟨rfl, rfl, rfl, g⟩ | ⟨rfl, p2, q2, hp2, hq2, rfl, rfl⟩
    · exact .inr ⟨rfl, p, q, hp, by push_cast at *; omega, rfl, rfl⟩
    · obtain rfl : p2 = p + q + 1 := by push_cast at *; omega
      refine .inr ⟨rfl, p, q + 1 + q2, hp, by push_cast at *; omega, ?_, ?_⟩
      · rw [leastF_split]; rfl
      · rw [sumF_split]; rfl
theorem AnsR.bound {f : Nat → Int} {olo ohi : Int} {lo k : Nat} {ls sm M : Int} {any : Bool} (h : AnsR f olo ohi lo k ls sm any) (hM : 0 ≤ M) (hb : ∀ i, lo ≤ i → i ≤ lo + k → -M ≤ f i ∧ f i ≤ M) : (-M ≤ ls ∧ ls ≤ M) ∧ -(M * ((k : Int) + 1)) ≤ sm ∧ sm ≤ M * ((k : Int) + 1) := by
  rcases h with ⟨rfl, rfl, rfl, h⟩ | ⟨rfl, p, q, hp, hq, rfl, rfl⟩
  · have : 0 ≤ M * ((k : Int) + 1) := Int.mul_nonneg hM (by omega)
    omega
  · have h1 := leastF_bound (f := f) (lo := p) (M := M) q (fun i a b => hb i (by push_cast at *; omega) (by push_cast at *; omega))
    have h2 := sumF_bound (f := f) (lo := p) (M := M) q (fun i a b => hb i (by push_cast at *; omega) (by push_cast at *; omega))
    have h3 : M * ((q : Int) + 1) ≤ M * ((k : Int) + 1) := Int.mul_le_mul_of_nonneg_left (by push_cast at *; omega) hM
    omega
end Go.Dam

/-
  How a slice of structs of m ints lies in memory: one flat list of ints, m for each element; and how the argument is opened to it. Conditions: none; nothing here names the program.
-/
namespace Go.Dam
open Go Go.RowKit Go.ChangeShapes Go.WideShapes Go.Joins Go.Deep
set_option linter.unusedVariables false
/-- The slice value reads as n elements of m ints each; l is all of them, one behind the other. -/
def IsFlat (m : Nat) (w : World) (B : Nat) (v : Value) (n : Nat) (l : List Int) : Prop :=
  ∃ A c, v = .slice A n c ∧ n ≤ c ∧ c ≤ maxLen ∧ n ≤ 140737488351232 ∧ l.length = n * m ∧ Reads w B m A n (l.map (Value.int .i64)) ∧ ∀ z ∈ l, (Lit.int .i64 z).wf = true
section
variable {m n : Nat} {w w' : World} {B B' : Nat} {v : Value} {l : List Int} {A : Option Addr}
theorem IsFlat.below (h : IsFlat m w B v n l) (hb : Below B w w') : IsFlat m w' B v n l := by
  obtain ⟨A, c, rfl, h1, h2, h5, h6, h3, h4⟩ := h
  exact ⟨A, c, rfl, h1, h2, h5, h6, h3.below hb, h4⟩
theorem IsFlat.more (h : IsFlat m w B v n l) (hB : B ≤ B') : IsFlat m w B' v n l := by
  obtain ⟨A, c, rfl, h1, h2, h5, h6, h3, h4⟩ := h
  exact ⟨A, c, rfl, h1, h2, h5, h6, h3.more hB, h4⟩
theorem flat_cells (hr : Reads w B m A n (l.map (Value.int .i64))) (hl : l.length = n * m) (hn : 0 < n) (hm : 0 < m) :
    ∃ b off, A = some ⟨b, off, none⟩ ∧ b < B ∧ ∀ j, j < n * m → w.cell? ⟨b, off + j, none⟩ = some (.int .i64 (l.getD j 0)) := by
  obtain ⟨ad, e, hb, hc⟩ := hr.2 hn
  obtain ⟨b, off, sp⟩ := ad
  have key : ∀ j, j < n * m → w.cell? ((⟨b, off, sp⟩ : Addr).add j) = some (.int .i64 (l.getD j 0)) := by
    intro j hj
    refine hc j _ ?_
    have : j < l.length := by omega
    simp [this]
  have h0 := key 0 (Nat.mul_pos hn hm)
  have hsp : sp = none := by simpa [Addr.add] using cell_spot h0
  subst hsp
  refine ⟨b, off, e, hb, fun j hj => ?_⟩
  have hu := key j hj
  unfold Addr.add at hu
  split at hu
  · rename_i h0; subst h0; exact hu
  · exact hu
theorem flat_wf (hw : ∀ z ∈ l, (Lit.int .i64 z).wf = true) (j : Nat) : I64 (l.getD j 0) := by
  rcases Nat.lt_or_ge j l.length with h | h
  · have : l.getD j 0 = l[j] := by simp [h]
    rw [this]
    exact wf_i64 (hw _ (List.getElem_mem h))
  · have : l.getD j 0 = 0 := by simp [h]
    rw [this]; unfold I64; omega
end
section
variable {H : Type} {enc : TypeId × Value → H} {P : Program} {w : World} {base : Nat} {spare : Nat → Bool} {held : Bool}
/-- Whatever slice of structs of m ints can be read as data. -/
theorem open_flat {t e : TypeId} {fs : Array Field} {m fuel : Nat} {cs : List Value} {x : DataW H × List MemPlace} (ht : P.underlying t = some (.slice e)) (he : P.underlying e = some (.struct fs)) (hone : oneCellFields P fs = true)
    (hC : P.cellsOf e = m) (hm : fs.size = m) (hm0 : 0 < m) (hfs : ∀ f ∈ fs.toList, P.underlying f.type = some (.int .i64)) (h : DataW.trod enc P w base spare held fuel t cs = some x) (hz : Sized P t x.1) :
    ∃ A n c, ∃ l : List Int, cs = [.slice A n c] ∧ n ≤ c ∧ c ≤ maxLen ∧ n * P.bytesOf e ≤ reachBytes ∧ l.length = n * m ∧ Reads w w.heap.size m A n (l.map (Value.int .i64)) ∧ ∀ z ∈ l, (Lit.int .i64 z).wf = true := by
  obtain ⟨A, n, c, vs, rfl, hc, hcm, hby, hr, hi⟩ := open_reads ht hC hm0 h hz
  have hl : vs.length = n * m := hr.1
  have key : ∀ j, j < n * m → ∃ z, vs[j]? = some (.int .i64 z) ∧ (Lit.int .i64 z).wf = true := by
    intro j hj
    have hq : j / m < n := by rw [Nat.div_lt_iff_lt_mul hm0]; exact hj
    have hrm : j % m < m := Nat.mod_lt _ hm0
    obtain ⟨f, y, hy, _⟩ := hi (j / m) hq
    obtain ⟨ys, n', _, _, hlen, hyl, hf⟩ := DataW.trod_struct he hy
    have hfj : fs[j % m]? = some (fs[j % m]'(by omega)) := Array.getElem?_eq_getElem (by omega)
    obtain ⟨ho, hk⟩ := hone_of hone (j % m) _ hfj
    have h1 := hf (j % m) _ hfj
    rw [ho, hk] at h1
    have hys : ys[j % m]? = some (ys[j % m]'(by omega)) := List.getElem?_eq_getElem (by omega)
    rw [hys] at h1
    obtain ⟨z, hz1, _, hw1⟩ := DataW.trod_int (hfs _ (by simp)) h1
    refine ⟨z, ?_, hw1⟩
    have h2 : ((((vs.drop (j / m * m)).take m).drop (j % m)).take 1)[0]? = some (.int .i64 z) := by rw [hz1]; rfl
    rw [List.getElem?_take, if_pos (by omega), List.getElem?_drop, List.getElem?_take, if_pos (by omega), List.getElem?_drop] at h2
    rw [← h2]
    congr 1
    have := Nat.div_add_mod j m
    rw [Nat.mul_comm] at this
    omega
  refine ⟨A, n, c, vs.map intOf, rfl, hc, hcm, hby, by simpa using hl, ?_, ?_⟩
  · have : (vs.map intOf).map (Value.int .i64) = vs := by
      apply List.ext_getElem?
      intro j
      rcases Nat.lt_or_ge j (n * m) with hj | hj
      · obtain ⟨z, hz, _⟩ := key j hj
        simp [hz, intOf]
      · rw [List.getElem?_eq_none (by simp; omega), List.getElem?_eq_none (by omega)]
    rw [this]; exact hr
  · intro z hz
    obtain ⟨j, hj, rfl⟩ := List.mem_iff_getElem.1 hz
    have hj' : j < vs.length := by simpa using hj
    obtain ⟨z, hz, hw⟩ := key j (by omega)
    rw [List.getElem?_eq_getElem hj'] at hz
    have : vs[j] = .int .i64 z := by injection hz
    simpa [this, intOf] using hw
theorem arg_flat {r : Reach} {b0 : Nat} {t e : TypeId} {v : Value} {d : DataW H} {ps : List MemPlace} {fs : Array Field} {m : Nat} (ht : P.underlying t = some (.slice e)) (he : P.underlying e = some (.struct fs)) (hone : oneCellFields P fs = true)
    (hC : P.cellsOf e = m) (hm : fs.size = m) (hm0 : 0 < m) (hfs : ∀ f ∈ fs.toList, P.underlying f.type = some (.int .i64)) (hby : 1 ≤ P.bytesOf e)
    (hv : Value.okWide P w r b0 t v) (h : DataW.Trod enc P w base spare held t v d ps) (hz : Sized P t d) : ∃ n l, IsFlat m w w.heap.size v n l := by
  obtain ⟨a, len, cap, rfl⟩ := okWide_slice ht hv
  obtain ⟨fuel, hf⟩ := h
  obtain ⟨A, n, c, l, hcs, hc, hcm, hb, hl, hr, hw⟩ := open_flat ht he hone hC hm hm0 hfs hf hz
  simp only [Value.cells, List.cons.injEq, and_true] at hcs
  have : n * 1 ≤ n * P.bytesOf e := Nat.mul_le_mul_left _ hby
  have hr2 : reachBytes = 140737488351232 := rfl
  exact ⟨n, l, A, c, hcs, hc, hcm, by omega, hl, hr, hw⟩
end
/-- Elements of lists of ints by their first coordinates. -/
def coordOk (z : Int) : Bool := decide (-1048576 ≤ z ∧ z ≤ 1048576)
theorem coordOk_yes {z : Int} (h : coordOk z = true) : -1048576 ≤ z ∧ z ≤ 1048576 := by simpa [coordOk] using h
theorem coordOk_no {z : Int} (h : coordOk z = false) : z < -1048576 ∨ 1048576 < z := by
  rw [coordOk, decide_eq_false_iff_not] at h; omega
/-- Has a number below n the mark? -/
def anyN (p : Nat → Bool) (n : Nat) : Bool := (List.range n).any p
theorem anyN_yes {p : Nat → Bool} {n i : Nat} (hi : i < n) (h : p i = true) : anyN p n = true := by
  unfold anyN; rw [List.any_eq_true]; exact ⟨i, List.mem_range.2 hi, h⟩
theorem anyN_no {p : Nat → Bool} {n : Nat} (h : ∀ i, i < n → p i = false) : anyN p n = false := by
  unfold anyN; rw [List.any_eq_false]; intro i hi; rw [h i (List.mem_range.1 hi)]; simp
theorem anyN_false {p : Nat → Bool} {n : Nat} (h : anyN p n = false) : ∀ i, i < n → p i = false := by
  unfold anyN at h; rw [List.any_eq_false] at h
  intro i hi
  have := h i (List.mem_range.2 hi)
  simpa using this
theorem anyN_true {p : Nat → Bool} {n : Nat} (h : anyN p n = true) : ∃ i, i < n ∧ p i = true := by
  unfold anyN at h; rw [List.any_eq_true] at h
  obtain ⟨i, hi, hp⟩ := h
  exact ⟨i, List.mem_range.1 hi, hp⟩
attribute [irreducible] anyN coordOk
/-- The first number below n with the mark, or -1. -/
def FirstR (p : Nat → Bool) (n : Nat) (k : Int) : Prop := (k = -1 ∧ ∀ i, i < n → p i = false) ∨ ∃ i : Nat, i < n ∧ k = i ∧ p i = true ∧ ∀ j, j < i → p j = false
theorem FirstR.any {p : Nat → Bool} {n : Nat} {k : Int} (h : FirstR p n k) : decide (k ≥ 0) = anyN p n := by
  rcases h with ⟨rfl, h⟩ | ⟨i, hi, rfl, hp, _⟩
  · rw [anyN_no h]; rfl
  · rw [anyN_yes hi hp]; simp
theorem FirstR.bd {p : Nat → Bool} {n : Nat} {k : Int} (h : FirstR p n k) : -1 ≤ k ∧ k < n := by
  rcases h with ⟨rfl, h⟩ | ⟨i, hi, rfl, hp, _⟩ <;> omega
theorem FirstR.ex (p : Nat → Bool) : ∀ n, ∃ k, FirstR p n k
  | 0 => ⟨-1, .inl ⟨rfl, fun i hi => absurd hi (by omega)⟩⟩
  | n + 1 => by
    obtain ⟨k, hk⟩ := FirstR.ex p n
    rcases hk with ⟨rfl, h⟩ | ⟨i, hi, rfl, hp, hj⟩
    · cases hn : p n
      · exact ⟨-1, .inl ⟨rfl, fun i hi => by rcases Nat.lt_or_ge i n with h1 | h1; exact h i h1; rw [show i = n from by omega]; exact hn⟩⟩
      · exact ⟨n, .inr ⟨n, by omega, rfl, hn, h⟩⟩
    · exact ⟨i, .inr ⟨i, by omega, rfl, hp, hj⟩⟩
theorem FirstR.is {p : Nat → Bool} {n i : Nat} {k : Int} (h : FirstR p n k) (hi : i < n) (hp : p i = true) (hno : ∀ j, j < i → p j = false) : k = i := by
  rcases h with ⟨rfl, h⟩ | ⟨i', hi', rfl, hp', hno'⟩
  · rw [h i hi] at hp; cases hp
  · rcases Nat.lt_trichotomy i i' with h | h | h
    · rw [hno' i h] at hp; cases hp
    · rw [h]
    · rw [hno i' h] at hp'; cases hp'
theorem FirstR.none_ {p : Nat → Bool} {n : Nat} {k : Int} (h : FirstR p n k) (hno : ∀ j, j < n → p j = false) : k = -1 := by
  rcases h with ⟨rfl, h⟩ | ⟨i', hi', rfl, hp', hno'⟩
  · rfl
  · rw [hno i' hi'] at hp'; cases hp'
theorem no_step {p : Nat → Bool} {i : Nat} (h : ∀ j, j < i → p j = false) (hi : p i = false) : ∀ j, j < i + 1 → p j = false := by
  intro j hj
  rcases Nat.lt_or_ge j i with h1 | h1
  · exact h j h1
  · rw [show j = i from by omega]; exact hi
theorem not3_cases {x y z b : Bool} (h : (!(x && (y && z))) = b) : (b = true ∧ x = false) ∨ (b = true ∧ x = true ∧ y = false) ∨ (b = true ∧ x = true ∧ y = true ∧ z = false) ∨ (b = false ∧ x = true ∧ y = true ∧ z = true) := by
  subst h; cases x <;> cases y <;> cases z <;> simp
end Go.Dam

/-
  Plain laws of plays of operations on ranges, no program in sight. Conditions: none.
-/
namespace Go.Dam
open Go Go.RowKit
set_option linter.unusedVariables false
/-- What is wrong with an operation. -/
def opBad (n kind lo hi c : Int) : Int := if kind < 1 ∨ 4 < kind then 3 else if lo < 0 ∨ hi < lo ∨ n ≤ hi ∨ (kind ≤ 2 ∧ coordOk c = false) then 2 else 0
theorem opBad_kind {n kind lo hi c : Int} (h : kind < 1 ∨ 4 < kind) : opBad n kind lo hi c = 3 := by unfold opBad; rw [if_pos h]
theorem opBad_range {n kind lo hi c : Int} (h : ¬ (kind < 1 ∨ 4 < kind)) (h2 : lo < 0 ∨ hi < lo ∨ n ≤ hi ∨ (kind ≤ 2 ∧ coordOk c = false)) : opBad n kind lo hi c = 2 := by unfold opBad; rw [if_neg h, if_pos h2]
theorem opBad_ok {n kind lo hi c : Int} (h : ¬ (kind < 1 ∨ 4 < kind)) (h2 : ¬ (lo < 0 ∨ hi < lo ∨ n ≤ hi ∨ (kind ≤ 2 ∧ coordOk c = false))) : opBad n kind lo hi c = 0 := by unfold opBad; rw [if_neg h, if_neg h2]
theorem opBad_zero {n kind lo hi c : Int} (h : opBad n kind lo hi c = 0) : (1 ≤ kind ∧ kind ≤ 4) ∧ 0 ≤ lo ∧ lo ≤ hi ∧ hi < n ∧ (kind ≤ 2 → coordOk c = true) := by
  unfold opBad at h
  by_cases h1 : kind < 1 ∨ 4 < kind
  · rw [if_pos h1] at h; cases h
  · rw [if_neg h1] at h
    by_cases h2 : lo < 0 ∨ hi < lo ∨ n ≤ hi ∨ (kind ≤ 2 ∧ coordOk c = false)
    · rw [if_pos h2] at h; cases h
    · refine ⟨by omega, by omega, by omega, by omega, fun hk => ?_⟩
      cases hc : coordOk c with
      | true => rfl
      | false => exact absurd (.inr (.inr (.inr ⟨hk, hc⟩))) h2
attribute [irreducible] opBad
section
variable (l o : List Int) (n : Nat)
/-- What is wrong with operation t. -/
def badT (t : Nat) : Int := opBad n (o.getD (t * 4) 0) (o.getD (t * 4 + 1) 0) (o.getD (t * 4 + 2) 0) (o.getD (t * 4 + 3) 0)
/-- The numbers after t operations. -/
def nowT : Nat → Nat → Int
  | 0, i => l.getD i 0
  | t + 1, i => if badT o n t = 0 then opF (o.getD (t * 4) 0) (o.getD (t * 4 + 1) 0) (o.getD (t * 4 + 2) 0) (o.getD (t * 4 + 3) 0) (nowT t) i else nowT t i
theorem nowT_0 (i : Nat) : nowT l o n 0 i = l.getD i 0 := rfl
theorem nowT_yes {t : Nat} (h : badT o n t = 0) (i : Nat) : nowT l o n (t + 1) i = opF (o.getD (t * 4) 0) (o.getD (t * 4 + 1) 0) (o.getD (t * 4 + 2) 0) (o.getD (t * 4 + 3) 0) (nowT l o n t) i := by show (if _ then _ else _) = _; rw [if_pos h]
theorem nowT_no {t : Nat} (h : badT o n t ≠ 0) (i : Nat) : nowT l o n (t + 1) i = nowT l o n t i := by show (if _ then _ else _) = _; rw [if_neg h]
/-- What operation t answers. -/
def valT (t : Nat) : Int :=
  if badT o n t = 0 then (if o.getD (t * 4) 0 = 3 then leastF (nowT l o n t) (o.getD (t * 4 + 1) 0).toNat ((o.getD (t * 4 + 2) 0).toNat - (o.getD (t * 4 + 1) 0).toNat) else if o.getD (t * 4) 0 = 4 then sumF (nowT l o n t) (o.getD (t * 4 + 1) 0).toNat ((o.getD (t * 4 + 2) 0).toNat - (o.getD (t * 4 + 1) 0).toNat) else 0) else 0
/-- The replies to the first t operations. -/
def repT : Nat → List Int
  | 0 => []
  | t + 1 => repT t ++ [badT o n t, valT l o n t]
theorem repT_0 : repT l o n 0 = [] := rfl
theorem repT_succ (t : Nat) : repT l o n (t + 1) = repT l o n t ++ [badT o n t, valT l o n t] := rfl
theorem repT_len : ∀ t, (repT l o n t).length = t * 2
  | 0 => rfl
  | t + 1 => by rw [repT_succ, List.length_append, repT_len t]; simp; omega
/-- The numbers after t operations, in a row. -/
def rowT (t : Nat) : List Int := (List.range n).map (nowT l o n t)
theorem rowT_len (t : Nat) : (rowT l o n t).length = n := by unfold rowT; simp
theorem rowT_at (t : Nat) {i : Nat} (h : i < n) : (rowT l o n t).getD i 0 = nowT l o n t i := by unfold rowT; simp [h]
end
theorem coord_bd {x : Int} (h : coordOk x = true) : -1048576 ≤ x ∧ x ≤ 1048576 := coordOk_yes h
theorem nowT_bd {l o : List Int} {n : Nat} (hl : ∀ i, i < n → coordOk (l.getD i 0) = true) : ∀ t i : Nat, i < n → -(1048576 * ((t : Int) + 1)) ≤ nowT l o n t i ∧ nowT l o n t i ≤ 1048576 * ((t : Int) + 1)
  | 0, i, hi => by have := coord_bd (hl i hi); rw [nowT_0]; omega
  | t + 1, i, hi => by
    have ih := nowT_bd (o := o) hl t i hi
    push_cast
    by_cases hb : badT o n t = 0
    · rw [nowT_yes l o n hb]
      have hz := opBad_zero hb
      by_cases hin : o.getD (t * 4 + 1) 0 ≤ (i : Int) ∧ (i : Int) ≤ o.getD (t * 4 + 2) 0
      · by_cases h1 : o.getD (t * 4) 0 = 1
        · have hc := coord_bd (hz.2.2.2.2 (by omega))
          rw [h1, opF_add hin]; omega
        · by_cases h2 : o.getD (t * 4) 0 = 2
          · have hc := coord_bd (hz.2.2.2.2 (by omega))
            rw [h2, opF_set hin]; omega
          · rw [opF_ask h1 h2]; omega
      · rw [opF_out (by omega)]; omega
    · rw [nowT_no l o n hb]; omega
theorem nowT_le {l o : List Int} {n : Nat} (hl : ∀ i, i < n → coordOk (l.getD i 0) = true) {t i : Nat} (ht : t ≤ 300) (hi : i < n) : -315621376 ≤ nowT l o n t i ∧ nowT l o n t i ≤ 315621376 := by
  have := nowT_bd (o := o) hl t i hi
  omega
/-- What apply answers at an operation that passed. -/
theorem ansT {l o : List Int} {n t : Nat} {ls sm : Int} {any : Bool} (hn : 0 < n) (hb : badT o n t = 0) (h : AnsR (opF (o.getD (t * 4) 0) (o.getD (t * 4 + 1) 0) (o.getD (t * 4 + 2) 0) (o.getD (t * 4 + 3) 0) (nowT l o n t)) (o.getD (t * 4 + 1) 0) (o.getD (t * 4 + 2) 0) 0 (n - 1) ls sm any) :
    (o.getD (t * 4) 0 = 3 → ls = valT l o n t) ∧ (o.getD (t * 4) 0 = 4 → sm = valT l o n t) := by
  have hz := opBad_zero hb
  unfold valT
  rw [if_pos hb]
  rcases h with ⟨_, _, _, h⟩ | ⟨_, p, q, hp, hq, rfl, rfl⟩
  · exfalso; push_cast at h; omega
  · have ep : p = (o.getD (t * 4 + 1) 0).toNat := by push_cast at *; omega
    have eq_ : q = (o.getD (t * 4 + 2) 0).toNat - (o.getD (t * 4 + 1) 0).toNat := by push_cast at *; omega
    subst ep eq_
    constructor
    · intro h3
      rw [if_pos h3]
      exact leastF_congr _ fun i _ _ => opF_ask (by omega) (by omega)
    · intro h4
      rw [if_neg (by omega), if_pos h4]
      exact sumF_congr _ fun i _ _ => opF_ask (by omega) (by omega)
theorem valT_other {l o : List Int} {n t : Nat} (h3 : o.getD (t * 4) 0 ≠ 3) (h4 : o.getD (t * 4) 0 ≠ 4) : valT l o n t = 0 := by
  unfold valT; rw [if_neg h3, if_neg h4]; split <;> rfl
theorem valT_bad {l o : List Int} {n t : Nat} (h : badT o n t ≠ 0) : valT l o n t = 0 := by unfold valT; rw [if_neg h]
theorem badT_zero {o : List Int} {n t : Nat} (h : badT o n t = 0) : (1 ≤ o.getD (t * 4) 0 ∧ o.getD (t * 4) 0 ≤ 4) ∧ 0 ≤ o.getD (t * 4 + 1) 0 ∧ o.getD (t * 4 + 1) 0 ≤ o.getD (t * 4 + 2) 0 ∧ o.getD (t * 4 + 2) 0 < (n : Int) ∧ (o.getD (t * 4) 0 ≤ 2 → coordOk (o.getD (t * 4 + 3) 0) = true) := opBad_zero h
attribute [irreducible] badT nowT valT repT rowT
end Go.Dam

/-
  Plain arithmetic of Morton codes, no program in sight: bits with gaps, put together by masks and shifts, are the sum bit by bit. Conditions: bounds on the numbers.
-/
namespace Go.Dam
set_option linter.unusedVariables false
open Go
/-- One step of spread. -/
def spS (k m n : Nat) : Nat := (n ||| n <<< k) &&& m
/-- One step of gather. -/
def gaS (k m n : Nat) : Nat := (n ||| n >>> k) &&& m
def spN (n : Nat) : Nat := spS 1 6148914691236517205 (spS 2 3689348814741910323 (spS 4 1085102592571150095 (spS 8 71777214294589695 (spS 16 281470681808895 n))))
def gaN (n : Nat) : Nat := gaS 16 4294967295 (gaS 8 281470681808895 (gaS 4 71777214294589695 (gaS 2 1085102592571150095 (gaS 1 3689348814741910323 (n &&& 6148914691236517205)))))
theorem spS_or (k m a b : Nat) : spS k m (a ||| b) = spS k m a ||| spS k m b := by
  unfold spS
  apply Nat.eq_of_testBit_eq; intro i
  simp only [Nat.testBit_and, Nat.testBit_or, Nat.testBit_shiftLeft]
  cases a.testBit i <;> cases b.testBit i <;> cases m.testBit i <;> cases decide (i ≥ k) <;> cases a.testBit (i - k) <;> cases b.testBit (i - k) <;> rfl
theorem gaS_or (k m a b : Nat) : gaS k m (a ||| b) = gaS k m a ||| gaS k m b := by
  unfold gaS
  apply Nat.eq_of_testBit_eq; intro i
  simp only [Nat.testBit_and, Nat.testBit_or, Nat.testBit_shiftRight]
  cases a.testBit i <;> cases b.testBit i <;> cases m.testBit i <;> cases a.testBit (k + i) <;> cases b.testBit (k + i) <;> rfl
theorem spN_or (a b : Nat) : spN (a ||| b) = spN a ||| spN b := by simp only [spN, spS_or]
theorem gaN_or (a b : Nat) : gaN (a ||| b) = gaN a ||| gaN b := by
  simp only [gaN]
  rw [show (a ||| b) &&& 6148914691236517205 = (a &&& 6148914691236517205) ||| (b &&& 6148914691236517205) from by
    apply Nat.eq_of_testBit_eq; intro i; simp only [Nat.testBit_and, Nat.testBit_or]
    cases a.testBit i <;> cases b.testBit i <;> cases Nat.testBit 6148914691236517205 i <;> rfl]
  simp only [gaS_or]
theorem spN_bit : ∀ i < 21, ∀ b < 2, spN (2 ^ i * b) = 4 ^ i * b := by decide +kernel
theorem gaN_bits : ∀ i < 32, ∀ d < 4, gaN (4 ^ i * d) = 2 ^ i * (d % 2) := by decide +kernel
theorem mod_two_pow (n i : Nat) : n % 2 ^ (i + 1) = 2 ^ i * (n / 2 ^ i % 2) ||| n % 2 ^ i := by
  rw [← Nat.two_pow_add_eq_or_of_lt (Nat.mod_lt _ (Nat.two_pow_pos i)), Nat.pow_succ, Nat.mod_mul, Nat.add_comm]
theorem four_pow (i : Nat) : 4 ^ i = 2 ^ (2 * i) := by rw [Nat.pow_mul]
theorem mod_four_pow (n i : Nat) : n % 4 ^ (i + 1) = 4 ^ i * (n / 4 ^ i % 4) ||| n % 4 ^ i := by
  rw [four_pow i, ← Nat.two_pow_add_eq_or_of_lt (Nat.mod_lt _ (Nat.two_pow_pos _)), ← four_pow, Nat.pow_succ, Nat.mod_mul, Nat.add_comm]
/-- Two numbers' bits in turn. -/
def zipB (x y : Nat) : Nat → Nat
  | 0 => 0
  | i + 1 => zipB x y i + (x / 2 ^ i % 2) * 4 ^ i + (y / 2 ^ i % 2) * (2 * 4 ^ i)
/-- Every second bit. -/
def evens (c : Nat) : Nat → Nat
  | 0 => 0
  | i + 1 => evens c i + (c / 4 ^ i % 2) * 2 ^ i
theorem zipB_lt (x y i : Nat) : zipB x y i < 4 ^ i := by
  induction i with
  | zero => simp [zipB]
  | succ i ih =>
    simp only [zipB, Nat.pow_succ]
    have h1 := Nat.mod_lt (x / 2 ^ i) (by omega : 0 < 2)
    have h2 := Nat.mod_lt (y / 2 ^ i) (by omega : 0 < 2)
    generalize 4 ^ i = q at *
    have h3 : x / 2 ^ i % 2 * q ≤ 1 * q := Nat.mul_le_mul_right _ (by omega)
    have h4 : y / 2 ^ i % 2 * (2 * q) ≤ 1 * (2 * q) := Nat.mul_le_mul_right _ (by omega)
    omega
theorem evens_lt (c i : Nat) : evens c i < 2 ^ i := by
  induction i with
  | zero => simp [evens]
  | succ i ih =>
    simp only [evens, Nat.pow_succ]
    have h1 := Nat.mod_lt (c / 4 ^ i) (by omega : 0 < 2)
    generalize 2 ^ i = q at *
    have h3 : c / 4 ^ i % 2 * q ≤ 1 * q := Nat.mul_le_mul_right _ (by omega)
    omega
theorem zip_low (x y i : Nat) (hi : i ≤ 21) : spN (x % 2 ^ i) ||| spN (y % 2 ^ i) <<< 1 = zipB x y i := by
  induction i with
  | zero => simp [zipB, Nat.mod_one]; decide
  | succ i ih =>
    have ih := ih (by omega)
    rw [mod_two_pow, mod_two_pow y, spN_or, spN_or, spN_bit i (by omega) _ (Nat.mod_lt _ (by omega)), spN_bit i (by omega) _ (Nat.mod_lt _ (by omega))]
    have hz := zipB_lt x y i
    have e1 : zipB x y (i + 1) = 4 ^ i * (x / 2 ^ i % 2 + 2 * (y / 2 ^ i % 2)) + zipB x y i := by
      simp only [zipB]
      generalize 4 ^ i = q
      generalize zipB x y i = z
      rcases Nat.mod_two_eq_zero_or_one (x / 2 ^ i) with hx | hx <;> rcases Nat.mod_two_eq_zero_or_one (y / 2 ^ i) with hy | hy <;> rw [hx, hy] <;> omega
    rw [e1, four_pow, Nat.two_pow_add_eq_or_of_lt (by rw [← four_pow]; exact hz), ← ih]
    have e2 : 2 ^ (2 * i) * (x / 2 ^ i % 2 + 2 * (y / 2 ^ i % 2)) = (2 ^ (2 * i) * (x / 2 ^ i % 2)) ||| (2 ^ (2 * i) * (y / 2 ^ i % 2)) <<< 1 := by
      rw [Nat.shiftLeft_eq]
      rcases Nat.mod_two_eq_zero_or_one (x / 2 ^ i) with hx | hx <;> rcases Nat.mod_two_eq_zero_or_one (y / 2 ^ i) with hy | hy <;> rw [hx, hy]
      · simp
      · simp
      · simp
      · have := Nat.two_pow_add_eq_or_of_lt (i := 2 * i + 1) (b := 2 ^ (2 * i)) (by rw [Nat.pow_succ]; have := Nat.two_pow_pos (2 * i); omega) 1
        rw [Nat.mul_one, Nat.pow_succ] at this
        simp only [Nat.mul_one, Nat.pow_one]
        rw [Nat.or_comm, ← this]
        omega
    rw [e2]
    rw [Nat.shiftLeft_or_distrib]
    generalize spN (x % 2 ^ i) = a
    generalize spN (y % 2 ^ i) <<< 1 = b
    generalize (2 ^ (2 * i) * (y / 2 ^ i % 2)) <<< 1 = d
    generalize 2 ^ (2 * i) * (x / 2 ^ i % 2) = f
    apply Nat.eq_of_testBit_eq; intro j
    simp only [Nat.testBit_or]
    cases a.testBit j <;> cases b.testBit j <;> cases d.testBit j <;> cases f.testBit j <;> rfl
theorem zip_sp (x y : Nat) (hx : x < 2097152) (hy : y < 2097152) : spN x ||| spN y <<< 1 = zipB x y 21 := by
  have := zip_low x y 21 (Nat.le_refl _)
  rwa [Nat.mod_eq_of_lt (by omega), Nat.mod_eq_of_lt (by omega)] at this
theorem gaN_low (c i : Nat) (hi : i ≤ 32) : gaN (c % 4 ^ i) = evens c i := by
  induction i with
  | zero => simp [evens, Nat.mod_one]; decide
  | succ i ih =>
    rw [mod_four_pow, gaN_or, gaN_bits i (by omega) _ (Nat.mod_lt _ (by omega)), ih (by omega), ← Nat.two_pow_add_eq_or_of_lt (evens_lt c i)]
    simp only [evens]
    rw [Nat.mod_mod_of_dvd _ (by decide : 2 ∣ 4), Nat.mul_comm]; omega
theorem gaN_eq (c : Nat) (hc : c < 18446744073709551616) : gaN c = evens c 32 := by
  have := gaN_low c 32 (Nat.le_refl _)
  rwa [Nat.mod_eq_of_lt (by omega)] at this
theorem evens_bit (c k i : Nat) (h : i < k) : evens c k / 2 ^ i % 2 = c / 4 ^ i % 2 := by
  induction k with
  | zero => omega
  | succ k ih =>
    simp only [evens]
    rcases Nat.lt_or_ge i k with h1 | h1
    · rw [← ih h1]
      have : 2 ^ k = 2 ^ i * (2 * 2 ^ (k - i - 1)) := by
        rw [← Nat.mul_assoc, ← Nat.pow_succ, ← Nat.pow_add]; congr 1; omega
      rw [this, Nat.mul_left_comm, Nat.add_mul_div_left _ _ (Nat.two_pow_pos i), ← Nat.mul_left_comm, Nat.add_mul_mod_self_left]
    · obtain rfl : i = k := by omega
      rw [Nat.mul_comm, Nat.add_mul_div_left _ _ (Nat.two_pow_pos i), Nat.div_eq_of_lt (evens_lt c i)]; omega
theorem zip_evens (c k : Nat) : ∀ i, i ≤ k → zipB (evens c k) (evens (c / 2) k) i = c % 4 ^ i
  | 0, _ => by simp [zipB, Nat.mod_one]
  | i + 1, h => by
    simp only [zipB]
    rw [zip_evens c k i (by omega), evens_bit _ _ _ (by omega), evens_bit _ _ _ (by omega), Nat.pow_succ, Nat.mod_mul, Nat.div_div_eq_div_mul, Nat.mul_comm 2, ← Nat.div_div_eq_div_mul]
    have : c / 4 ^ i % 4 = c / 4 ^ i % 2 + 2 * (c / 4 ^ i / 2 % 2) := by omega
    rw [this]
    generalize 4 ^ i = q
    rcases Nat.mod_two_eq_zero_or_one (c / q) with hx | hx <;> rcases Nat.mod_two_eq_zero_or_one (c / q / 2) with hy | hy <;> rw [hx, hy] <;> omega
theorem zip_more (x y i : Nat) (hx : x < 2 ^ i) (hy : y < 2 ^ i) : ∀ j, zipB x y (i + j) = zipB x y i
  | 0 => rfl
  | j + 1 => by
    show zipB x y (i + j + 1) = _
    simp only [zipB]
    have hp : 2 ^ i ≤ 2 ^ (i + j) := Nat.pow_le_pow_right (by omega) (by omega)
    rw [zip_more x y i hx hy j, Nat.div_eq_of_lt (by omega), Nat.div_eq_of_lt (by omega)]; simp
theorem zipB_0 (x y : Nat) : zipB x y 0 = 0 := rfl
theorem zipB_succ (x y i : Nat) : zipB x y (i + 1) = zipB x y i + (x / 2 ^ i % 2) * 4 ^ i + (y / 2 ^ i % 2) * (2 * 4 ^ i) := rfl
theorem evens_0 (c : Nat) : evens c 0 = 0 := rfl
theorem evens_succ (c i : Nat) : evens c (i + 1) = evens c i + (c / 4 ^ i % 2) * 2 ^ i := rfl
theorem evens_zero (i : Nat) : evens 0 i = 0 := by
  induction i with
  | zero => rfl
  | succ i ih => simp [evens, ih]
attribute [irreducible] zipB evens
/-- A code is what its halves make together, if both are small. -/
theorem back_zip (c : Nat) (hc : c < 9223372036854775808) (hx : evens c 32 ≤ 1048576) (hy : evens (c / 2) 32 ≤ 1048576) : zipB (evens c 32) (evens (c / 2) 32) 21 = c := by
  have h := zip_evens c 32 32 (Nat.le_refl _)
  rw [Nat.mod_eq_of_lt (by omega)] at h
  rw [← zip_more _ _ 21 (by omega) (by omega) 11]
  exact h
theorem evens_31 (c : Nat) : evens c 32 = evens c 31 + c / 4 ^ 31 % 2 * 2 ^ 31 := evens_succ c 31
/-- What morton.Back and its reference answer alike: of the halves below bit 62 the code is made again only if there was none above. -/
theorem back_ref (c : Nat) (hc : c < 9223372036854775808) :
    (evens c 32 ≤ 1048576 ∧ evens (c / 2) 32 ≤ 1048576) ↔ (evens c 31 ≤ 1048576 ∧ evens (c / 2) 31 ≤ 1048576 ∧ zipB (evens c 31) (evens (c / 2) 31) 21 = c) := by
  have e1 := evens_31 c
  have e2 := evens_31 (c / 2)
  have q1 : (4 : Nat) ^ 31 = 4611686018427387904 := by decide
  have q2 : (2 : Nat) ^ 31 = 2147483648 := by decide
  have q3 : (4 : Nat) ^ 21 = 4398046511104 := by decide
  rw [q1, q2] at e1 e2
  have hz : c / 2 / 4611686018427387904 % 2 = 0 := by omega
  rw [hz, Nat.zero_mul, Nat.add_zero] at e2
  rw [e2]
  have h4 := zipB_lt (evens c 31) (evens (c / 2) 31) 21
  rw [q3] at h4
  have hb := back_zip c hc
  rw [e2] at hb
  clear e2 hz q1 q2 q3
  have hq : c / 4611686018427387904 % 2 = 0 ∨ 4611686018427387904 ≤ c ∧ c / 4611686018427387904 % 2 = 1 := by omega
  generalize evens (c / 2) 31 = y at *
  generalize evens c 31 = x at *
  generalize evens c 32 = x' at *
  rcases hq with hq | ⟨hq1, hq⟩
  · rw [hq, Nat.zero_mul, Nat.add_zero] at e1
    subst e1
    exact ⟨fun ⟨h1, h2⟩ => ⟨h1, h2, hb h1 h2⟩, fun ⟨h1, h2, _⟩ => ⟨h1, h2⟩⟩
  · rw [hq, Nat.one_mul] at e1
    subst e1
    constructor
    · rintro ⟨h1, _⟩; omega
    · rintro ⟨_, _, h3⟩; rw [h3] at h4; omega
/-- The walk's own terms of one step of spread. -/
theorem sp_step (k m n : Nat) (K M : Int) (hK : K = 2 ^ k) (hM : M = (m : Nat)) (hm : m < 9223372036854775808) (hn : n * 2 ^ k < 4611686018427387904) (hn2 : n < 4611686018427387904) :
    ∃ o a : Nat, o < 9223372036854775808 ∧ (n : Int) * K < 4611686018427387904 ∧ bits .or .i64 (n : Int) ((n : Int) * K) = (o : Int) ∧ bits .and .i64 (o : Int) M = (a : Int) ∧ a = spS k m n := by
  subst hK hM
  have e : ((n : Int) * 2 ^ k) = ((n * 2 ^ k : Nat) : Int) := by simp
  have ho : n ||| n * 2 ^ k < 9223372036854775808 := Nat.or_lt_two_pow (n := 63) (by omega) (by omega)
  refine ⟨n ||| n * 2 ^ k, spS k m n, ho, by rw [e]; omega, ?_, ?_, rfl⟩
  · rw [e]; exact i64_or_nat _ _ (by omega) (by omega)
  · unfold spS; rw [Nat.shiftLeft_eq]; exact and_i64 _ _ _ rfl ho hm
theorem ga_step (k m n : Nat) (K M : Int) (hK : K = 2 ^ k) (hM : M = (m : Nat)) (hm : m < 9223372036854775808) (hn : n < 9223372036854775808) :
    ∃ o a : Nat, o < 9223372036854775808 ∧ bits .or .i64 (n : Int) ((n : Int) / K) = (o : Int) ∧ bits .and .i64 (o : Int) M = (a : Int) ∧ a = gaS k m n ∧ a ≤ m := by
  subst hK hM
  have e : ((n : Int) / 2 ^ k) = ((n / 2 ^ k : Nat) : Int) := by simp
  have hd : n / 2 ^ k ≤ n := Nat.div_le_self _ _
  have ho : n ||| n / 2 ^ k < 9223372036854775808 := Nat.or_lt_two_pow (n := 63) (by omega) (by omega)
  refine ⟨n ||| n / 2 ^ k, gaS k m n, ho, ?_, ?_, rfl, by unfold gaS; exact Nat.and_le_right⟩
  · rw [e]; exact i64_or_nat _ _ (by omega) (by omega)
  · unfold gaS; rw [Nat.shiftRight_eq_div_pow]; exact and_i64 _ _ _ rfl ho hm
theorem spS_le (k m n : Nat) : spS k m n ≤ m := by unfold spS; exact Nat.and_le_right
theorem spS_lt (k m n j : Nat) (hn : n < 2 ^ j) : spS k m n < 2 ^ (j + k) := by
  unfold spS
  refine Nat.lt_of_le_of_lt Nat.and_le_left (Nat.or_lt_two_pow (Nat.lt_of_lt_of_le hn (Nat.pow_le_pow_right (by omega) (by omega))) ?_)
  rw [Nat.shiftLeft_eq, Nat.pow_add]
  exact Nat.mul_lt_mul_of_pos_right hn (Nat.two_pow_pos k)
/-- Any number's low bits by a mask. -/
theorem and_i64_any (x : Int) (m : Nat) (M : Int) (hM : M = (m : Nat)) (hm : m < 9223372036854775808) : ∃ a : Nat, a ≤ m ∧ bits .and .i64 x M = (a : Int) := by
  subst hM
  refine ⟨(BitVec.ofInt 64 x &&& BitVec.ofInt 64 (m : Int)).toNat, ?_, ?_⟩
  · rw [BitVec.toNat_and, ofInt_i64 m hm]; exact Nat.and_le_right
  · show IntKind.i64.wrap ((BitVec.ofInt 64 x &&& BitVec.ofInt 64 (m : Int)).toNat : Int) = _
    have : (BitVec.ofInt 64 x &&& BitVec.ofInt 64 (m : Int)).toNat ≤ m := by rw [BitVec.toNat_and, ofInt_i64 m hm]; exact Nat.and_le_right
    rw [IntKind.wrap_i64]; omega
theorem spN_eq (n : Nat) : spN n = spS 1 6148914691236517205 (spS 2 3689348814741910323 (spS 4 1085102592571150095 (spS 8 71777214294589695 (spS 16 281470681808895 n)))) := rfl
theorem gaN_out (n : Nat) : gaN n = gaS 16 4294967295 (gaS 8 281470681808895 (gaS 4 71777214294589695 (gaS 2 1085102592571150095 (gaS 1 3689348814741910323 (n &&& 6148914691236517205))))) := rfl
theorem spN_lt (n : Nat) (hn : n < 2097152) : spN n < 4503599627370496 :=
  spS_lt 1 _ _ 51 (spS_lt 2 _ _ 49 (spS_lt 4 _ _ 45 (spS_lt 8 _ _ 37 (spS_lt 16 _ _ 21 hn))))
theorem code_or (x y : Nat) (hx : x < 2097152) (hy : y < 2097152) : bits .or .i64 ((spN x : Nat) : Int) (((spN y : Nat) : Int) * 2) = ((zipB x y 21 : Nat) : Int) := by
  have h1 := spN_lt x hx
  have h2 := spN_lt y hy
  rw [← zip_sp x y hx hy, Nat.shiftLeft_eq]
  have := i64_or_nat (spN x) (spN y * 2) (by omega) (by omega)
  simpa using this
theorem gaN_le (n : Nat) : gaN n ≤ 4294967295 := by unfold gaN gaS; exact Nat.and_le_right
attribute [irreducible] spS gaS spN gaN
end Go.Dam

/-
  append onto a row of the call's own at a step of a region that draws its order. Conditions: none; nothing here names the program.
-/
namespace Go.Dam
open Go Go.RowKit Go.ChangeShapes Go.WideShapes Go.Joins Go.Deep
set_option linter.unusedVariables false
section
variable {P : Program} {w : World}
/-- append of m elements at a step of a region that draws. -/
theorem step_pushM {T E : TypeId} {z : Value} {size bytes : Nat} (el : El P T E z size bytes) {ops : Array Oper} {o : Oper} {a : Act} {K : Act → World → Prop} {Q : Exit → Act → World → Prop} {Ep : Prop} (hgd : o.guard = none) (s x : Operand)
    (ho : o.op = .call { callee := .builtin .append, args := #[s, x], argTypes := #[T, T] })
    (base : Nat) (v : Value) (n : Nat) (xs : List Value) (hown : w.ownsRow base E size v n xs) (hs : a.eval s = v)
    (ad : Addr) (m c : Nat) (news : List Value) (hx : a.eval x = .slice (some ad) m c) (hl : news.length = m * size) (hnews : ∀ j u, news[j]? = some u → w.cell? (ad.add j) = some u) (h1 : ∀ u ∈ news, u.oneCell' = true)
    (h63 : n + m ≤ 140737488355328) (hbytes : (n + m) * bytes ≤ 140737488355328) (hbase : base ≤ w.heap.size)
    (h : ∀ v' w', w'.ownsRow base E size v' (n + m) (xs ++ news) → w.grownBy w' v.ownBlock → LiesOr w.heap.size v v' → K (a.put o.dst v') w') :
    if Region.wanted o (yielded ops a.tmps) = true then Oper.wp P o a w K Q else Ep := by
  have hw : Region.wanted o (yielded ops a.tmps) = true := by simp [Region.wanted, hgd]
  rw [if_pos hw]
  obtain ⟨i, hi, hz, hz1, hz2⟩ := el.info
  obtain ⟨v', w', hr, h2, h3, h4⟩ := run_append_own (P := P) w base T o.type E i z size bytes el.ht hi hz hz1 hz2 el.hz el.hs v n xs hown ad m c news hl hnews h1 (by unfold maxLen; omega) hbytes hbase
  have h5 := run_append_lies (P := P) T o.type E i z size bytes base el.ht hi hz hz1 hz2 el.hz el.hs v n xs hown ad m c news hl hnews h1 (by unfold maxLen; omega) hbytes hbase v' w' hr
  unfold Oper.wp execOp
  simp only [ho, resolve, invoke, builtin, Sem.run_bind, Sem.run_pure, Result.andThen_ok, List.map_toArray, List.map_cons, List.map_nil, hs, hx, hr]
  exact h v' w' h2 h3 h5
/-- append of one element of one cell, which lies in block g, at a step of a region that draws. -/
theorem step_pushD {T E : TypeId} {z : Value} {bytes : Nat} (el : El P T E z 1 bytes) {ops : Array Oper} {o : Oper} {a : Act} {K : Act → World → Prop} {Q : Exit → Act → World → Prop} {Ep : Prop} (hgd : o.guard = none) (s x : Operand)
    (ho : o.op = .call { callee := .builtin .append, args := #[s, x], argTypes := #[T, T] })
    (base : Nat) (v : Value) (n : Nat) (xs : List Value) (hown : w.ownsRow base E 1 v n xs) (hs : a.eval s = v)
    (g c : Nat) (u : Value) (hx : a.eval x = .slice (some ⟨g, 0, none⟩) 1 c) (hu : w.cell? ⟨g, 0, none⟩ = some u) (h1 : u.oneCell' = true)
    (h63 : n + 1 ≤ 140737488355328) (hbytes : (n + 1) * bytes ≤ 140737488355328) (hbase : base ≤ w.heap.size)
    (h : ∀ v' w', w'.ownsRow base E 1 v' (n + 1) (xs ++ [u]) → w.grownBy w' v.ownBlock → LiesOr w.heap.size v v' → K (a.put o.dst v') w') :
    if Region.wanted o (yielded ops a.tmps) = true then Oper.wp P o a w K Q else Ep := by
  refine step_pushM el hgd s x ho base v n xs hown hs ⟨g, 0, none⟩ 1 c [u] hx rfl ?_ ?_ h63 hbytes hbase h
  · intro j y hj
    cases j with
    | zero => simp at hj; subst hj; exact hu
    | succ j => simp at hj
  · intro y hy
    simp at hy; subst hy; exact h1
end
end Go.Dam

/-
  append of a whole row of the call's own, nil or not, onto another one. Conditions: none; nothing here names the program.
-/
namespace Go.Dam
open Go Go.RowKit Go.ChangeShapes Go.WideShapes Go.Joins Go.Deep
set_option linter.unusedVariables false
section
variable {P : Program} {w : World}
theorem wpList_pushOwn {T E : TypeId} {z : Value} {size bytes : Nat} (el : El P T E z size bytes) {ops : Array Oper} {rest : List Oper} {o : Oper} {a : Act} {Q : Exit → Act → World → Prop} (hgd : o.guard = none) (s x : Operand)
    (ho : o.op = .call { callee := .builtin .append, args := #[s, x], argTypes := #[T, T] })
    (base : Nat) (v : Value) (n : Nat) (xs : List Value) (hown : w.ownsRow base E size v n xs) (hs : a.eval s = v)
    (base' : Nat) (u : Value) (m : Nat) (ys : List Value) (hsrc : w.ownsRow base' E size u m ys) (hx : a.eval x = u) (h1 : ∀ y ∈ ys, y.oneCell' = true)
    (h63 : n + m ≤ 140737488355328) (hbytes : (n + m) * bytes ≤ 140737488355328) (hbase : base ≤ w.heap.size)
    (h : ∀ v' w', w'.ownsRow base E size v' (n + m) (xs ++ ys) → w.grownBy w' v.ownBlock → LiesOr w.heap.size v v' → wpList P ops Q rest (a.put o.dst v') w') : wpList P ops Q (o :: rest) a w := by
  rcases ownsRow_forms hsrc with ⟨rfl, rfl⟩ | ⟨g, cap, rfl⟩
  · obtain ⟨i, hi, hz, hz1, hz2⟩ := el.info
    have hy : ys = [] := List.eq_nil_of_length_eq_zero (by have := hsrc.1; simpa using this)
    subst hy
    have hr := run_append_owned_none (P := P) (w := w) base T o.type E i size el.ht hi v n xs hown
    refine wpList_plain hgd fun K hK => ?_
    unfold Oper.wp execOp
    simp only [ho, resolve, invoke, builtin, Sem.run_bind, Sem.run_pure, Result.andThen_ok, List.map_toArray, List.map_cons, List.map_nil, hs, hx, hr]
    exact hK _ _ (h v w (by simpa using hown) (World.grownBy.refl w _) fun g hg => .inl hg)
  · exact wpList_pushM el hgd s x ho base v n xs hown hs ⟨g, 0, none⟩ m cap ys hx hsrc.1 (hsrc.cells (g := g) rfl) h1 h63 hbytes hbase h
/-- append(nil, x...), x an argument: a copy in new memory. -/
theorem wpList_copyReads {T E : TypeId} {z : Value} {bytes : Nat} (el : El P T E z 1 bytes) {ops : Array Oper} {rest : List Oper} {o : Oper} {a : Act} {Q : Exit → Act → World → Prop} (hgd : o.guard = none) (s x : Operand)
    (ho : o.op = .call { callee := .builtin .append, args := #[s, x], argTypes := #[T, T] }) (hs : a.eval s = .slice none 0 0)
    (B : Nat) (A : Option Addr) (m c : Nat) (ys : List Value) (hr : Reads w B 1 A m ys) (hx : a.eval x = .slice A m c) (h1 : ∀ y ∈ ys, y.oneCell' = true)
    (h63 : m ≤ 140737488355328) (hbytes : m * bytes ≤ 140737488355328)
    (h : ∀ v' w', w'.ownsRow w.heap.size E 1 v' m ys → w.grownBy w' none → wpList P ops Q rest (a.put o.dst v') w') : wpList P ops Q (o :: rest) a w := by
  by_cases h0 : m = 0
  · subst h0
    obtain ⟨i, hi, hz, hz1, hz2⟩ := el.info
    have hy : ys = [] := List.eq_nil_of_length_eq_zero (by have := hr.1; simpa using this)
    subst hy
    have hr : (Builtin.append_ #[T, T] o.type #[.slice none 0 0, .slice A 0 c]).run P w = .ok (.slice none 0 0) w := by
      cases A <;> simp [Builtin.append_, run_underlying el.ht, sizeOf, typeInfo, hi, Builtin.lenOf, Builtin.firstCells, storeCells, loadCells, loadCellsFrom]
    refine wpList_plain hgd fun K hK => ?_
    unfold Oper.wp execOp
    simp only [ho, resolve, invoke, builtin, Sem.run_bind, Sem.run_pure, Result.andThen_ok, List.map_toArray, List.map_cons, List.map_nil, hs, hx, hr]
    exact hK _ _ (h _ w (World.ownsRow_nil _ _ _ _) (World.grownBy.refl w _))
  · obtain ⟨ad, rfl, _, hc⟩ := hr.2 (by omega)
    refine wpList_pushM el hgd s x ho w.heap.size _ 0 [] (World.ownsRow_nil _ _ _ _) hs ad m c ys hx hr.1 hc h1 (by omega) (by rw [Nat.zero_add]; exact hbytes) (Nat.le_refl _) fun v' w' k1 k2 _ => ?_
    rw [Nat.zero_add, List.nil_append] at k1
    exact h v' w' k1 k2
end
end Go.Dam
