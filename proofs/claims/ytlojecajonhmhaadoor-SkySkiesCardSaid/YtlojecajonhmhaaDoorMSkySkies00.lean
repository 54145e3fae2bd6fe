/-
  Texts of one claim behind each other. Conditions: none of its own.
-/
import Derived.WalkKit
import Derived.ProofKit
import Derived.OpenShut
import Derived.ShutString
import Derived.ChangeOld
import Derived.Below
import Derived.Laws.OwnMore
import Derived.Deep.AppendLies
import Derived.Deep.Draws
import Derived.Laws.Rows
import Derived.Deep.Slices
import Derived.Deep.Fields
import Derived.Lib.SmallJoins
import Derived.Lib.Hide
import Derived.SizedLaws
import Derived.Laws.BitsAllLaws
import Derived.Laws.BitsLemmas
import Derived.IntWalk
import Derived.Sort.LotA
import Derived.Deep.RegionLaw
set_option linter.unusedVariables false
set_option linter.unusedSimpArgs false
/-
  Helper lemmas for all claims of this seat: how an argument that can be read as data lies in memory (a slice that reads as a list, a struct of plain fields), and how that reading is kept while the call makes blocks of its own. Conditions: none; nothing here names the program.
-/
namespace Go.Dam
open Go Go.RowKit Go.ChangeShapes Go.WideShapes Go.Joins Go.Deep
set_option linter.unusedVariables false

theorem block_of_add (a : Addr) (n : Nat) : (a.add n).block = a.block := by unfold Addr.add; split <;> rfl
theorem add_of_add (a : Addr) (i j : Nat) : (a.add i).add j = a.add (i + j) := by
  unfold Addr.add
  by_cases hi : i = 0 <;> by_cases hj : j = 0 <;> simp [hi, hj, Nat.add_assoc]

/-- The slice value with address A and n elements of 'size' cells each reads as the cells xs, and lies below block B. -/
def Reads (w : World) (B size : Nat) (A : Option Addr) (n : Nat) (xs : List Value) : Prop :=
  xs.length = n * size ∧ (0 < n → ∃ ad, A = some ad ∧ ad.block < B ∧ ∀ j u, xs[j]? = some u → w.cell? (ad.add j) = some u)

section
variable {w w' : World} {B B' size n : Nat} {A : Option Addr} {xs : List Value}
theorem Reads.none_ : Reads w B size A 0 [] := ⟨by simp, fun h => absurd h (by omega)⟩
theorem Reads.at_ {k : Nat} (h : Reads w B 1 A n xs) (hk : k < n) : ∃ ad u, A = some ad ∧ ad.block < B ∧ xs[k]? = some u ∧ w.cell? (ad.add k) = some u := by
  obtain ⟨ad, e, hb, hc⟩ := h.2 (by omega)
  have hl : k < xs.length := by have := h.1; omega
  exact ⟨ad, xs[k], e, hb, List.getElem?_eq_getElem hl, hc k _ (List.getElem?_eq_getElem hl)⟩
theorem cell_spot {w : World} {a : Addr} {v : Value} (h : w.cell? a = some v) : a.spot = none := by
  unfold World.cell? at h
  split at h
  · split at h
    · cases h
    · rename_i hs; simpa using hs
  · cases h
theorem Reads.addr (h : Reads w B 1 A n xs) (hn : 0 < n) : ∃ b off, A = some ⟨b, off, none⟩ ∧ b < B ∧ ∀ k, k < n → ∃ u, xs[k]? = some u ∧ w.cell? ⟨b, off + k, none⟩ = some u := by
  obtain ⟨ad, e, hb, hc⟩ := h.2 hn
  obtain ⟨b, off, sp⟩ := ad
  have key : ∀ k, k < n → ∃ u, xs[k]? = some u ∧ w.cell? ((⟨b, off, sp⟩ : Addr).add k) = some u := by
    intro k hk
    have hl : k < xs.length := by have := h.1; omega
    exact ⟨xs[k], List.getElem?_eq_getElem hl, hc k _ (List.getElem?_eq_getElem hl)⟩
  obtain ⟨u0, _, hu0⟩ := key 0 hn
  have hsp : sp = none := by simpa [Addr.add] using cell_spot hu0
  subst hsp
  refine ⟨b, off, e, hb, fun k hk => ?_⟩
  obtain ⟨u, hx, hu⟩ := key k hk
  refine ⟨u, hx, ?_⟩
  unfold Addr.add at hu
  split at hu
  · rename_i h0; subst h0; exact hu
  · exact hu
theorem Reads.keep (h : Reads w B size A n xs) (hk : ∀ p : Addr, p.block < B → w'.cell? p = w.cell? p) : Reads w' B size A n xs :=
  ⟨h.1, fun hn => by
    obtain ⟨ad, e, hb, hc⟩ := h.2 hn
    exact ⟨ad, e, hb, fun j u hu => (hk _ (by rw [block_of_add]; exact hb)).trans (hc j u hu)⟩⟩
theorem Reads.more (h : Reads w B size A n xs) (hB : B ≤ B') : Reads w B' size A n xs :=
  ⟨h.1, fun hn => by
    obtain ⟨ad, e, hb, hc⟩ := h.2 hn
    exact ⟨ad, e, by omega, hc⟩⟩
theorem Reads.below (h : Reads w B size A n xs) (hb : Below B w w') : Reads w' B size A n xs := h.keep fun _ hp => hb.cell hp
theorem Reads.drew (h : Reads w B size A n xs) : Reads w.drew B size A n xs := h
theorem Reads.drewN (h : Reads w B size A n xs) (k : Nat) : Reads (w.drewN k) B size A n xs := h
theorem Reads.alloc (h : Reads w B size A n xs) (hB : B ≤ w.heap.size) (o : Obj) : Reads (w.alloc o) B size A n xs := h.keep fun p hp => World.cell?_alloc_lt w o p (by omega)
theorem Reads.setCell (h : Reads w B size A n xs) {p : Addr} (hB : B ≤ p.block) (u : Value) : Reads (w.setCell p u) B size A n xs :=
  h.keep fun q hq => World.cell?_setCell_other w p q u (fun e => by subst e; omega)
theorem Reads.grown (h : Reads w B size A n xs) {row : Option Nat} (hg : w.grownBy w' row) (hB : B ≤ w.heap.size) (hr : ∀ g, row = some g → B ≤ g) : Reads w' B size A n xs :=
  h.keep fun p hp => World.cell?_of_block (hg.block p.block (by omega) (fun e => by have := hr _ e.symm; omega))
theorem Reads.cut (h : Reads w B size A n xs) {k cap : Nat} (hk : k ≤ n) (hc : n ≤ cap) :
    Reads w B size (if cap = k then A else A.map (·.add (k * size))) (n - k) (xs.drop (k * size)) := by
  refine ⟨by rw [List.length_drop, h.1, Nat.sub_mul], fun hn => ?_⟩
  obtain ⟨ad, rfl, hb, hcell⟩ := h.2 (by omega)
  rw [if_neg (by omega)]
  refine ⟨ad.add (k * size), rfl, by rw [block_of_add]; exact hb, fun j u hu => ?_⟩
  rw [add_of_add]
  exact hcell _ u (by rw [← hu, List.getElem?_drop])
theorem Reads.take (h : Reads w B size A n xs) {k : Nat} (hk : k ≤ n) : Reads w B size A k (xs.take (k * size)) := by
  refine ⟨by rw [List.length_take, h.1]; exact Nat.min_eq_left (Nat.mul_le_mul_right _ hk), fun hn => ?_⟩
  obtain ⟨ad, rfl, hb, hcell⟩ := h.2 (by omega)
  refine ⟨ad, rfl, hb, fun j u hu => ?_⟩
  rw [List.getElem?_take] at hu
  split at hu
  · exact hcell _ u hu
  · cases hu
theorem Reads.of_own {base : Nat} {e : TypeId} {c : Nat} (h : w.ownsRow base e size (.slice A n c) n xs) : Reads w w.heap.size size A n xs := by
  refine ⟨h.1, fun hn => ?_⟩
  obtain ⟨g, cap, hv, _, hlt⟩ := h.form hn
  have hA : A = some ⟨g, 0, none⟩ := by injection hv
  subst hA
  exact ⟨_, rfl, hlt, h.cells (g := g) rfl⟩
end

/-- Block g is just the cells cs of element type t, none frozen. -/
def Blk (w : World) (g : Nat) (t : TypeId) (cs : Array Value) : Prop := w.heap[g]? = some (.cells cs t (0, 0))
section
variable {w w' : World} {g : Nat} {t : TypeId} {cs : Array Value}
theorem Blk.lt (h : Blk w g t cs) : g < w.heap.size := by
  rcases Nat.lt_or_ge g w.heap.size with hlt | hge
  · exact hlt
  · unfold Blk at h; rw [Array.getElem?_eq_none hge] at h; cases h
theorem Blk.cell (h : Blk w g t cs) (i : Nat) : w.cell? ⟨g, i, none⟩ = cs[i]? := cell_of_row w g i cs t (0, 0) h
theorem Blk.frozen (h : Blk w g t cs) (i : Nat) : w.frozen? ⟨g, i, none⟩ = false := by
  unfold Blk at h
  simp [World.frozen?, h]
theorem Blk.new (w : World) (t : TypeId) (cs : Array Value) : Blk (w.alloc (.cells cs t)) w.heap.size t cs := heap_alloc_new w _
theorem Blk.new_at (w : World) (t : TypeId) (cs : Array Value) (g : Nat) (hg : g = w.heap.size) : Blk (w.alloc (.cells cs t)) g t cs := by subst hg; exact Blk.new w t cs
theorem Blk.drew (h : Blk w g t cs) : Blk w.drew g t cs := h
theorem Blk.drewN (h : Blk w g t cs) (n : Nat) : Blk (w.drewN n) g t cs := h
theorem Blk.alloc (h : Blk w g t cs) (o : Obj) : Blk (w.alloc o) g t cs := (Below.heap_alloc w o g h.lt).trans h
theorem Blk.set_ (h : Blk w g t cs) (i : Nat) (u : Value) : Blk (w.setCell ⟨g, i, none⟩ u) g t (cs.setIfInBounds i u) := by
  unfold Blk at h ⊢
  simp [World.setCell, Array.getElem?_modify, h]
theorem Blk.far (h : Blk w g t cs) {p : Addr} (hp : g ≠ p.block) (u : Value) : Blk (w.setCell p u) g t cs := (Below.heap_setCell w p u g hp).trans h
theorem Blk.below {B : Nat} (h : Blk w g t cs) (hb : Below B w w') (hg : g < B) : Blk w' g t cs := (hb.block g hg).trans h
theorem Blk.grown {row : Option Nat} (h : Blk w g t cs) (hb : w.grownBy w' row) (hg : some g ≠ row) : Blk w' g t cs := (hb.block g h.lt hg).trans h
theorem Blk.ne_ {g' : Nat} {t' : TypeId} {cs' : Array Value} (h : Blk w g t cs) (h' : Blk w g' t' cs') (hne : t ≠ t') : g ≠ g' := by
  rintro rfl
  unfold Blk at h h'
  rw [h] at h'
  injection h' with h'
  injection h' with _ ht
  exact hne ht
end

/-! ### From a datum's reading to 'Reads' -/
section
variable {H : Type} {enc : TypeId × Value → H} {P : Program} {w : World} {base : Nat} {spare : Nat → Bool} {held : Bool}

theorem cell_lt {w : World} {a : Addr} {v : Value} (h : w.cell? a = some v) : a.block < w.heap.size := by
  unfold World.cell? at h
  rcases Nat.lt_or_ge a.block w.heap.size with hlt | hge
  · exact hlt
  · rw [Array.getElem?_eq_none hge] at h; cases h

/-- No part of the datum is longer than the form's reach. -/
def Sized (P : Program) (t : TypeId) (d : DataW H) : Prop := ∀ n ∈ d.weights P t, n ≤ reachBytes
theorem weightsAll_mem {e : TypeId} {d : DataW H} {n : Nat} : ∀ {l : List (DataW H)}, d ∈ l → n ∈ d.weights P e → n ∈ DataW.weightsAll P e l
  | x :: l, hd, hn => by
    simp only [DataW.weightsAll, List.mem_append]
    rcases List.mem_cons.1 hd with rfl | hd
    · exact Or.inl hn
    · exact Or.inr (weightsAll_mem hd hn)
theorem Sized.field {t : TypeId} {fs : Array Field} {parts : List (DataW H)} (ht : P.underlying t = some (.struct fs)) (hz : Sized P t (.agg parts)) {j : Nat} {f : Field} {d : DataW H} (hf : fs[j]? = some f) (hd : parts[j]? = some d) : Sized P f.type d := by
  intro n hn
  refine hz n ?_
  simp only [DataW.weights, ht]
  exact DataW.weights_mem_each (by simpa using ⟨f, hf, rfl⟩) hd n hn
theorem sized_arg {ts : List TypeId} {ds : List (DataW H)} (h : (DataW.weightsEach P ts ds).all (· ≤ reachBytes) = true) {j : Nat} {t : TypeId} {d : DataW H} (ht : ts[j]? = some t) (hd : ds[j]? = some d) : Sized P t d := by
  intro n hn
  have := List.all_eq_true.1 h n (DataW.weights_mem_each ht hd n hn)
  simpa using this

/-- Whatever slice can be read as data: 'Reads', and each element's cells read as data of the element's type. -/
theorem open_reads {t e : TypeId} {s fuel : Nat} {cs : List Value} {x : DataW H × List MemPlace} (ht : P.underlying t = some (.slice e)) (hs : P.cellsOf e = s) (hs0 : 0 < s)
    (h : DataW.trod enc P w base spare held fuel t cs = some x) (hz : Sized P t x.1) :
    ∃ A n c vs, cs = [.slice A n c] ∧ n ≤ c ∧ c ≤ maxLen ∧ n * P.bytesOf e ≤ reachBytes ∧ Reads w w.heap.size s A n vs ∧
      ∀ i, i < n → ∃ f y, DataW.trod enc P w base spare held f e ((vs.drop (i * s)).take s) = some y ∧ Sized P e y.1 := by
  rcases open_slice ht h with ⟨rfl, rfl⟩ | ⟨a, len, cap, m, n, D, Pl, rfl, hb, hl, hm, hmm, hx, hi⟩
  · exact ⟨none, 0, 0, [], rfl, Nat.le_refl _, Nat.zero_le _, by simp, Reads.none_, fun i hi => absurd hi (by omega)⟩
  · have hz1 : len * P.bytesOf e ≤ reachBytes := by
      have h1 := hz ((((List.range len).map D).length + ((List.range (m - len)).map fun j => D (len + j)).length) * P.bytesOf e) (by rw [hx]; simp [DataW.weights, ht])
      refine Nat.le_trans (Nat.mul_le_mul_right _ ?_) h1
      simp
    have hz2 : ∀ i, i < len → Sized P e (D i) := by
      intro i hil n hn
      refine hz n ?_
      rw [hx]
      simp only [DataW.weights, ht, List.mem_cons, List.mem_append]
      exact Or.inr (Or.inl (weightsAll_mem (List.mem_map.2 ⟨i, List.mem_range.2 hil, rfl⟩) hn))
    rw [hs] at hi
    have hlm : len ≤ m := by rw [hmm]; split <;> omega
    let vs := (List.range (len * s)).map fun j => (w.cell? (a.add j)).getD undef
    have hvl : vs.length = len * s := by simp [vs]
    have key : ∀ i, i < len → ∃ cs', cs'.length = s ∧ (∀ j, j < s → w.cell? (a.add (i * s + j)) = cs'[j]?) ∧ DataW.trod enc P w base spare held n e cs' = some (D i, Pl i) := by
      intro i hil
      obtain ⟨cs', hc, ht'⟩ := hi i (by omega)
      obtain ⟨_, hcl, hat⟩ := World.cells?_some hc
      exact ⟨cs', hcl, fun j hj => by rw [← add_of_add]; exact hat j hj, ht'⟩
    have hcell : ∀ j, j < len * s → ∃ u, w.cell? (a.add j) = some u := by
      intro j hj
      have hq : j / s < len := by rw [Nat.div_lt_iff_lt_mul hs0]; exact hj
      have hr : j % s < s := Nat.mod_lt _ hs0
      obtain ⟨cs', hcl, hat, _⟩ := key (j / s) hq
      have := hat (j % s) hr
      rw [show j / s * s + j % s = j from by rw [Nat.mul_comm]; exact Nat.div_add_mod j s] at this
      exact ⟨cs'[j % s]'(by omega), by rw [this]; exact List.getElem?_eq_getElem (by omega)⟩
    have hvs : ∀ j, j < len * s → w.cell? (a.add j) = vs[j]? := by
      intro j hj
      obtain ⟨u, hu⟩ := hcell j hj
      simp [vs, hj, hu]
    refine ⟨some a, len, cap, vs, rfl, hl, hm, hz1, ⟨hvl, fun hn => ⟨a, rfl, ?_, fun j u hu => ?_⟩⟩, fun i hil => ⟨n, (D i, Pl i), ?_, hz2 i hil⟩⟩
    · obtain ⟨u, hu⟩ := hcell 0 (Nat.mul_pos hn hs0)
      have := cell_lt hu
      rwa [block_of_add] at this
    · have hj : j < len * s := by
        rw [← hvl]
        rcases Nat.lt_or_ge j vs.length with h | h
        · exact h
        · rw [List.getElem?_eq_none h] at hu; cases hu
      rw [hvs j hj, hu]
    · obtain ⟨cs', hcl, hat, ht'⟩ := key i hil
      rw [← ht']
      congr 1
      have hle : i * s + s ≤ len * s := by
        have : (i + 1) * s ≤ len * s := Nat.mul_le_mul_right _ (by omega)
        rwa [Nat.succ_mul] at this
      apply List.ext_getElem?
      intro j
      rw [List.getElem?_take, List.getElem?_drop]
      split
      · rename_i hj
        rw [← hvs _ (by omega), hat j hj]
      · rw [List.getElem?_eq_none (by omega)]

/-- A slice of integers. -/
theorem open_list {t e : TypeId} {k : IntKind} {fuel : Nat} {cs : List Value} {x : DataW H × List MemPlace} (ht : P.underlying t = some (.slice e)) (he : P.underlying e = some (.int k)) (hs : P.cellsOf e = 1)
    (h : DataW.trod enc P w base spare held fuel t cs = some x) (hz : Sized P t x.1) :
    ∃ A n c, ∃ l : List Int, cs = [.slice A n c] ∧ n ≤ c ∧ c ≤ maxLen ∧ n * P.bytesOf e ≤ reachBytes ∧ l.length = n ∧ Reads w w.heap.size 1 A n (l.map (Value.int k)) ∧ ∀ z ∈ l, (Lit.int k z).wf = true := by
  obtain ⟨A, n, c, vs, rfl, hc, hm, hby, hr, hi⟩ := open_reads ht hs (by omega) h hz
  have hl : vs.length = n := by have := hr.1; omega
  have key : ∀ i, i < n → ∃ z, vs[i]? = some (.int k z) ∧ (Lit.int k z).wf = true := by
    intro i hin
    obtain ⟨f, y, hy, _⟩ := hi i hin
    obtain ⟨z, hz, _, hw⟩ := DataW.trod_int he hy
    have h0 : ((vs.drop (i * 1)).take 1)[0]? = vs[i]? := by simp
    rw [hz] at h0
    exact ⟨z, h0.symm, hw⟩
  refine ⟨A, n, c, vs.map intOf, rfl, hc, hm, hby, by simpa using hl, ?_, ?_⟩
  · have : (vs.map intOf).map (Value.int k) = vs := by
      apply List.ext_getElem?
      intro j
      rcases Nat.lt_or_ge j n with hj | hj
      · obtain ⟨z, hz, _⟩ := key j hj
        simp [hz, intOf]
      · rw [List.getElem?_eq_none (by simp; omega), List.getElem?_eq_none (by omega)]
    rw [this]; exact hr
  · intro z hz
    obtain ⟨j, hj, rfl⟩ := List.mem_iff_getElem.1 hz
    have hj' : j < vs.length := by simpa using hj
    obtain ⟨z, hz, hw⟩ := key j (by omega)
    rw [List.getElem?_eq_getElem hj'] at hz
    have : vs[j] = .int k z := by injection hz
    simpa [this, intOf] using hw

def boolOf : Value → Bool | .bool b => b | _ => false
/-- A slice of bools. -/
theorem open_bools {t e : TypeId} {fuel : Nat} {cs : List Value} {x : DataW H × List MemPlace} (ht : P.underlying t = some (.slice e)) (he : P.underlying e = some .bool) (hs : P.cellsOf e = 1)
    (h : DataW.trod enc P w base spare held fuel t cs = some x) (hz : Sized P t x.1) :
    ∃ A n c, ∃ l : List Bool, cs = [.slice A n c] ∧ n ≤ c ∧ c ≤ maxLen ∧ n * P.bytesOf e ≤ reachBytes ∧ l.length = n ∧ Reads w w.heap.size 1 A n (l.map Value.bool) := by
  obtain ⟨A, n, c, vs, rfl, hc, hm, hby, hr, hi⟩ := open_reads ht hs (by omega) h hz
  have hl : vs.length = n := by have := hr.1; omega
  refine ⟨A, n, c, vs.map boolOf, rfl, hc, hm, hby, by simpa using hl, ?_⟩
  have : (vs.map boolOf).map Value.bool = vs := by
    apply List.ext_getElem?
    intro j
    rcases Nat.lt_or_ge j n with hj | hj
    · obtain ⟨f, y, hy, _⟩ := hi j hj
      obtain ⟨z, hz, _⟩ := DataW.trod_bool he hy
      have h0 : ((vs.drop (j * 1)).take 1)[0]? = vs[j]? := by simp
      rw [hz] at h0
      simp [← h0, boolOf]
    · rw [List.getElem?_eq_none (by simp; omega), List.getElem?_eq_none (by omega)]
  rw [this]; exact hr

theorem wf_u64 {x : Int} (h : (Lit.int .u64 x).wf = true) : ∃ n : Nat, x = n ∧ n < 18446744073709551616 := by
  have hx : 0 ≤ x ∧ x ≤ 18446744073709551615 := by simpa [Lit.wf, IntKind.min, IntKind.max, IntKind.signed, IntKind.bits] using h
  exact ⟨x.toNat, by omega, by omega⟩
theorem wf_i64 {x : Int} (h : (Lit.int .i64 x).wf = true) : -9223372036854775808 ≤ x ∧ x ≤ 9223372036854775807 := by
  simpa [Lit.wf, IntKind.min, IntKind.max, IntKind.signed, IntKind.bits] using h
theorem wf_u8 {x : Int} (h : (Lit.int .u8 x).wf = true) : 0 ≤ x ∧ x ≤ 255 := by
  simpa [Lit.wf, IntKind.min, IntKind.max, IntKind.signed, IntKind.bits] using h

/-! ### What a walk is told of an argument -/
def IsInts (k : IntKind) (w : World) (B : Nat) (v : Value) (l : List Int) : Prop :=
  ∃ A c, v = .slice A l.length c ∧ l.length ≤ c ∧ c ≤ maxLen ∧ l.length ≤ 140737488351232 ∧ Reads w B 1 A l.length (l.map (Value.int k)) ∧ ∀ z ∈ l, (Lit.int k z).wf = true
def IsBools (w : World) (B : Nat) (v : Value) (l : List Bool) : Prop :=
  ∃ A c, v = .slice A l.length c ∧ l.length ≤ c ∧ c ≤ maxLen ∧ l.length ≤ 140737488351232 ∧ Reads w B 1 A l.length (l.map Value.bool)
/-- A slice of words, as natural numbers. -/
def wordV (n : Nat) : Value := .int .u64 n
def IsWords (w : World) (B : Nat) (v : Value) (l : List Nat) : Prop :=
  ∃ A c, v = .slice A l.length c ∧ l.length ≤ c ∧ c ≤ maxLen ∧ l.length ≤ 140737488351232 ∧ Reads w B 1 A l.length (l.map wordV) ∧ ∀ z ∈ l, z < 18446744073709551616
def I64 (x : Int) : Prop := -9223372036854775808 ≤ x ∧ x ≤ 9223372036854775807
def IsBits (w : World) (B : Nat) (v : Value) (n : Int) (l : List Nat) : Prop :=
  ∃ s, v = .agg #[.int .i64 n, s] ∧ I64 n ∧ IsWords w B s l
def IsPacked (w : World) (B : Nat) (v : Value) (n m : Int) (l : List Nat) : Prop :=
  ∃ s, v = .agg #[.int .i64 n, .int .i64 m, s] ∧ I64 n ∧ I64 m ∧ IsWords w B s l

variable {r : Reach} {b0 : Nat} {t e : TypeId} {v : Value} {d : DataW H} {ps : List MemPlace}
theorem arg_u64 (ht : P.underlying t = some (.int .u64)) (hv : Value.okWide P w r b0 t v) (h : DataW.Trod enc P w base spare held t v d ps) (hz : Sized P t d) : ∃ n : Nat, v = .int .u64 n ∧ n < 18446744073709551616 := by
  obtain ⟨x, rfl, _, _, hw⟩ := open_int ht hv h
  obtain ⟨n, rfl, hn⟩ := wf_u64 hw
  exact ⟨n, rfl, hn⟩
theorem arg_i64 (ht : P.underlying t = some (.int .i64)) (hv : Value.okWide P w r b0 t v) (h : DataW.Trod enc P w base spare held t v d ps) (hz : Sized P t d) : ∃ x : Int, v = .int .i64 x ∧ I64 x := by
  obtain ⟨x, rfl, _, _, hw⟩ := open_int ht hv h
  exact ⟨x, rfl, wf_i64 hw⟩
theorem arg_bool (ht : P.underlying t = some .bool) (hv : Value.okWide P w r b0 t v) (h : DataW.Trod enc P w base spare held t v d ps) (hz : Sized P t d) : ∃ x : Bool, v = .bool x := by
  obtain ⟨x, rfl, _, _⟩ := open_bool ht hv h
  exact ⟨x, rfl⟩
theorem arg_string (ht : P.underlying t = some .string) (hv : Value.okWide P w r b0 t v) (h : DataW.Trod enc P w base spare held t v d ps) (hz : Sized P t d) : ∃ s : ByteArray, v = .string s ∧ s.size ≤ 140737488351232 := by
  obtain ⟨x, rfl, rfl, _, hs⟩ := Go.ChangeMaps.open_string ht hv h
  have := hz x.data.toList.length (by simp [DataW.weights])
  exact ⟨x, rfl, by simpa [reachBytes] using this⟩
theorem ints_of {k : IntKind} {fuel : Nat} {x : DataW H × List MemPlace} (ht : P.underlying t = some (.slice e)) (he : P.underlying e = some (.int k)) (hs : P.cellsOf e = 1) (hby : 1 ≤ P.bytesOf e)
    (h : DataW.trod enc P w base spare held fuel t [v] = some x) (hz : Sized P t x.1) : ∃ l, IsInts k w w.heap.size v l := by
  obtain ⟨A, n, c, l, hcs, hc, hm, hb, rfl, hr, hw⟩ := open_list ht he hs h hz
  simp only [List.cons.injEq, and_true] at hcs
  have : l.length * 1 ≤ l.length * P.bytesOf e := Nat.mul_le_mul_left _ hby
  have hr2 : reachBytes = 140737488351232 := rfl
  exact ⟨l, A, c, hcs, hc, hm, by omega, hr, hw⟩
theorem arg_ints {k : IntKind} (ht : P.underlying t = some (.slice e)) (he : P.underlying e = some (.int k)) (hs : P.cellsOf e = 1) (hby : 1 ≤ P.bytesOf e) (hv : Value.okWide P w r b0 t v) (h : DataW.Trod enc P w base spare held t v d ps) (hz : Sized P t d) :
    ∃ l, IsInts k w w.heap.size v l := by
  obtain ⟨a, len, cap, rfl⟩ := okWide_slice ht hv
  obtain ⟨fuel, hf⟩ := h
  exact ints_of ht he hs hby hf hz
theorem words_of_ints {B : Nat} {l : List Int} (h : IsInts .u64 w B v l) : ∃ ws, IsWords w B v ws := by
  obtain ⟨A, c, rfl, hc, hm, hb, hr, hw⟩ := h
  refine ⟨l.map Int.toNat, A, c, by simp, by simpa using hc, hm, by simpa using hb, ?_, ?_⟩
  · have : (l.map Int.toNat).map wordV = l.map (Value.int .u64) := by
      rw [List.map_map]
      refine List.map_congr_left fun z hz => ?_
      obtain ⟨n, rfl, _⟩ := wf_u64 (hw z hz)
      rfl
    rw [this, List.length_map]; exact hr
  · intro z hz
    obtain ⟨y, hy, rfl⟩ := List.mem_map.1 hz
    obtain ⟨n, rfl, hn⟩ := wf_u64 (hw y hy)
    simpa using hn
theorem arg_words (ht : P.underlying t = some (.slice e)) (he : P.underlying e = some (.int .u64)) (hs : P.cellsOf e = 1) (hby : 1 ≤ P.bytesOf e) (hv : Value.okWide P w r b0 t v) (h : DataW.Trod enc P w base spare held t v d ps) (hz : Sized P t d) :
    ∃ l, IsWords w w.heap.size v l := by
  obtain ⟨l, hl⟩ := arg_ints ht he hs hby hv h hz
  exact words_of_ints hl
theorem arg_bools (ht : P.underlying t = some (.slice e)) (he : P.underlying e = some .bool) (hs : P.cellsOf e = 1) (hby : 1 ≤ P.bytesOf e) (hv : Value.okWide P w r b0 t v) (h : DataW.Trod enc P w base spare held t v d ps) (hz : Sized P t d) :
    ∃ l, IsBools w w.heap.size v l := by
  obtain ⟨a, len, cap, rfl⟩ := okWide_slice ht hv
  obtain ⟨fuel, hf⟩ := h
  obtain ⟨A, n, c, l, hcs, hc, hm, hb, rfl, hr⟩ := open_bools ht he hs hf hz
  simp only [Value.cells, List.cons.injEq, and_true] at hcs
  have : l.length * 1 ≤ l.length * P.bytesOf e := Nat.mul_le_mul_left _ hby
  have hr2 : reachBytes = 140737488351232 := rfl
  exact ⟨l, A, c, hcs, hc, hm, by omega, hr⟩
theorem arg_bits {f0 f1 : Field} {u : TypeId} (ht : P.underlying t = some (.struct #[f0, f1])) (h0 : P.underlying f0.type = some (.int .i64)) (h1 : P.underlying f1.type = some (.slice u)) (hu : P.underlying u = some (.int .u64)) (hs : P.cellsOf u = 1) (hby : 1 ≤ P.bytesOf u)
    (hone : oneCellFields P #[f0, f1] = true) (hC : P.cellsOf t = 2) (hv : Value.okWide P w r b0 t v) (h : DataW.Trod enc P w base spare held t v d ps) (hz : Sized P t d) :
    ∃ n l, IsBits w w.heap.size v n l := by
  obtain ⟨v0, v1, y0, y1, n, rfl, rfl, _, t0, t1⟩ := open_agg2 ht hone hC hv h
  obtain ⟨x, hx, _, hw⟩ := DataW.trod_int h0 t0
  simp only [List.cons.injEq, and_true] at hx
  subst hx
  obtain ⟨l, hl⟩ := ints_of h1 hu hs hby t1 (hz.field ht (j := 1) rfl rfl)
  obtain ⟨ws, hws⟩ := words_of_ints hl
  exact ⟨x, ws, v1, rfl, wf_i64 hw, hws⟩
theorem arg_packed {f0 f1 f2 : Field} {u : TypeId} (ht : P.underlying t = some (.struct #[f0, f1, f2])) (h0 : P.underlying f0.type = some (.int .i64)) (h0' : P.underlying f1.type = some (.int .i64)) (h1 : P.underlying f2.type = some (.slice u)) (hu : P.underlying u = some (.int .u64)) (hs : P.cellsOf u = 1) (hby : 1 ≤ P.bytesOf u)
    (hone : oneCellFields P #[f0, f1, f2] = true) (hC : P.cellsOf t = 3) (hv : Value.okWide P w r b0 t v) (h : DataW.Trod enc P w base spare held t v d ps) (hz : Sized P t d) :
    ∃ n m l, IsPacked w w.heap.size v n m l := by
  obtain ⟨v0, v1, v2, y0, y1, y2, n, rfl, rfl, _, t0, t1, t2⟩ := open_agg3 ht hone hC hv h
  obtain ⟨x, hx, _, hw⟩ := DataW.trod_int h0 t0
  simp only [List.cons.injEq, and_true] at hx
  subst hx
  obtain ⟨z, hz', _, hw'⟩ := DataW.trod_int h0' t1
  simp only [List.cons.injEq, and_true] at hz'
  subst hz'
  obtain ⟨l, hl⟩ := ints_of h1 hu hs hby t2 (hz.field ht (j := 2) rfl rfl)
  obtain ⟨ws, hws⟩ := words_of_ints hl
  exact ⟨x, z, ws, v2, rfl, wf_i64 hw, wf_i64 hw', hws⟩
end
section
variable {k : IntKind} {w w' : World} {B B' : Nat} {v : Value} {l : List Int} {ws : List Nat} {lb : List Bool}
theorem IsInts.below (h : IsInts k w B v l) (hb : Below B w w') : IsInts k w' B v l := by
  obtain ⟨A, c, rfl, h1, h2, h5, h3, h4⟩ := h
  exact ⟨A, c, rfl, h1, h2, h5, h3.below hb, h4⟩
theorem IsWords.below (h : IsWords w B v ws) (hb : Below B w w') : IsWords w' B v ws := by
  obtain ⟨A, c, rfl, h1, h2, h5, h3, h4⟩ := h
  exact ⟨A, c, rfl, h1, h2, h5, h3.below hb, h4⟩
theorem IsBools.below (h : IsBools w B v lb) (hb : Below B w w') : IsBools w' B v lb := by
  obtain ⟨A, c, rfl, h1, h2, h5, h3⟩ := h
  exact ⟨A, c, rfl, h1, h2, h5, h3.below hb⟩
theorem IsInts.more (h : IsInts k w B v l) (hB : B ≤ B') : IsInts k w B' v l := by
  obtain ⟨A, c, rfl, h1, h2, h5, h3, h4⟩ := h
  exact ⟨A, c, rfl, h1, h2, h5, h3.more hB, h4⟩
theorem IsWords.more (h : IsWords w B v ws) (hB : B ≤ B') : IsWords w B' v ws := by
  obtain ⟨A, c, rfl, h1, h2, h5, h3, h4⟩ := h
  exact ⟨A, c, rfl, h1, h2, h5, h3.more hB, h4⟩
theorem IsBits.below {n : Int} (h : IsBits w B v n ws) (hb : Below B w w') : IsBits w' B v n ws := by
  obtain ⟨s, rfl, h1, h2⟩ := h
  exact ⟨s, rfl, h1, h2.below hb⟩
theorem IsBits.more {n : Int} (h : IsBits w B v n ws) (hB : B ≤ B') : IsBits w B' v n ws := by
  obtain ⟨s, rfl, h1, h2⟩ := h
  exact ⟨s, rfl, h1, h2.more hB⟩
theorem IsPacked.below {n m : Int} (h : IsPacked w B v n m ws) (hb : Below B w w') : IsPacked w' B v n m ws := by
  obtain ⟨s, rfl, h1, h1', h2⟩ := h
  exact ⟨s, rfl, h1, h1', h2.below hb⟩
end

/-! ### append of one element onto a row of the call's own -/
/-- What the program's tables say of a slice type T and its element type E. -/
structure El (P : Program) (T E : TypeId) (z : Value) (size bytes : Nat) : Prop where
  ht : P.underlying T = some (.slice E)
  hi : (P.info? E).map (fun i => (i.zero, i.size, i.bytes)) = some (some z, size, bytes)
  hz : z.cells.size = size
  hs : 0 < size
section
variable {P : Program} {w : World}
theorem El.info {T E : TypeId} {z : Value} {size bytes : Nat} (h : El P T E z size bytes) : ∃ i, P.info? E = some i ∧ i.zero = some z ∧ i.size = size ∧ i.bytes = bytes := by
  have := h.hi
  cases hi : P.info? E with
  | none => rw [hi] at this; simp at this
  | some i =>
    rw [hi] at this
    simp at this
    exact ⟨i, rfl, this.1, this.2.1, this.2.2⟩
/-- append(s, x), x one element of one cell: it lies in the new block g. -/
theorem wpList_push {T E : TypeId} {z : Value} {bytes : Nat} (el : El P T E z 1 bytes) {ops : Array Oper} {rest : List Oper} {o : Oper} {a : Act} {Q : Exit → Act → World → Prop} (hgd : o.guard = none) (s x : Operand)
    (ho : o.op = .call { callee := .builtin .append, args := #[s, x], argTypes := #[T, T] })
    (base : Nat) (v : Value) (n : Nat) (xs : List Value) (hown : w.ownsRow base E 1 v n xs) (hs : a.eval s = v)
    (g c : Nat) (u : Value) (hx : a.eval x = .slice (some ⟨g, 0, none⟩) 1 c) (hu : w.cell? ⟨g, 0, none⟩ = some u) (h1 : u.oneCell' = true)
    (h63 : n + 1 ≤ 140737488355328) (hbytes : (n + 1) * bytes ≤ 140737488355328) (hbase : base ≤ w.heap.size)
    (h : ∀ v' w', w'.ownsRow base E 1 v' (n + 1) (xs ++ [u]) → w.grownBy w' v.ownBlock → wpList P ops Q rest (a.put o.dst v') w') : wpList P ops Q (o :: rest) a w := by
  obtain ⟨i, hi, hz, hz1, hz2⟩ := el.info
  refine wpList_append_own w hgd s x T ho base E i z 1 bytes el.ht hi hz hz1 hz2 el.hz (by omega) v n xs hs hown ⟨g, 0, none⟩ 1 c [u] hx rfl ?_ ?_ (by unfold maxLen; omega) hbytes hbase fun v' w' h2 h3 _ => h v' w' h2 h3
  · intro j y hj
    cases j with
    | zero => simp at hj; subst hj; exact hu
    | succ j => simp at hj
  · intro y hy
    simp at hy; subst hy; exact h1
/-- What is kept below B over such an append. -/
theorem below_push {B : Nat} {w0 w w' : World} {base : Nat} {E : TypeId} {size n : Nat} {v : Value} {xs : List Value} (hb : Below B w0 w) (hown : w.ownsRow base E size v n xs) (hB : B ≤ base) (hz : B ≤ w.heap.size) (hg : w.grownBy w' v.ownBlock) : Below B w0 w' :=
  hb.grown hg hz fun k hk => Nat.le_trans hB (hown.lt k hk).1
theorem own_bools {base E n : Nat} {v : Value} {l : List Bool} (h : w.ownsRow base E 1 v n (l.map Value.bool)) (hn : l.length ≤ 140737488351232) : IsBools w w.heap.size v l := by
  have hl : l.length = n := by have := h.1; simpa using this
  subst hl
  rcases h.2 with ⟨rfl, h0⟩ | ⟨g, cap, cur, rfl, _, _, hnc, hcm, _⟩
  · exact ⟨none, 0, by rw [h0], by omega, by omega, hn, h.1, fun hp => absurd hp (by omega)⟩
  · exact ⟨_, cap, rfl, hnc, hcm, hn, Reads.of_own h⟩
theorem own_ints {k : IntKind} {base E n : Nat} {v : Value} {l : List Int} (h : w.ownsRow base E 1 v n (l.map (Value.int k))) (hn : l.length ≤ 140737488351232) (hw : ∀ z ∈ l, (Lit.int k z).wf = true) : IsInts k w w.heap.size v l := by
  have hl : l.length = n := by have := h.1; simpa using this
  subst hl
  rcases h.2 with ⟨rfl, h0⟩ | ⟨g, cap, cur, rfl, _, _, hnc, hcm, _⟩
  · exact ⟨none, 0, by rw [h0], by omega, by omega, hn, ⟨h.1, fun hp => absurd hp (by omega)⟩, hw⟩
  · exact ⟨_, cap, rfl, hnc, hcm, hn, Reads.of_own h, hw⟩
theorem own_words {base E n : Nat} {v : Value} {l : List Nat} (h : w.ownsRow base E 1 v n (l.map wordV)) (hn : l.length ≤ 140737488351232) (hw : ∀ z ∈ l, z < 18446744073709551616) : IsWords w w.heap.size v l := by
  have hl : l.length = n := by have := h.1; simpa using this
  subst hl
  rcases h.2 with ⟨rfl, h0⟩ | ⟨g, cap, cur, rfl, _, _, hnc, hcm, _⟩
  · exact ⟨none, 0, by rw [h0], by omega, by omega, hn, ⟨h.1, fun hp => absurd hp (by omega)⟩, hw⟩
  · exact ⟨_, cap, rfl, hnc, hcm, hn, Reads.of_own h, hw⟩
theorem bools_at {B : Nat} {A : Option Addr} {l : List Bool} (hr : Reads w B 1 A l.length (l.map Value.bool)) (hn : 0 < l.length) :
    ∃ b off, A = some ⟨b, off, none⟩ ∧ b < B ∧ ∀ k, k < l.length → w.cell? ⟨b, off + k, none⟩ = some (.bool (l.getD k false)) := by
  obtain ⟨b, off, e, hb, hc⟩ := hr.addr hn
  refine ⟨b, off, e, hb, fun k hk => ?_⟩
  obtain ⟨u, hx, hu⟩ := hc k hk
  rw [hu, ← hx]
  simp [hk]
theorem ints_cells {k : IntKind} {B : Nat} {A : Option Addr} {l : List Int} (hr : Reads w B 1 A l.length (l.map (Value.int k))) (hn : 0 < l.length) :
    ∃ b off, A = some ⟨b, off, none⟩ ∧ b < B ∧ ∀ j, j < l.length → w.cell? ⟨b, off + j, none⟩ = some (.int k (l.getD j 0)) := by
  obtain ⟨b, off, e, hb, hc⟩ := hr.addr hn
  refine ⟨b, off, e, hb, fun j hj => ?_⟩
  obtain ⟨u, hx, hu⟩ := hc j hj
  rw [hu, ← hx]
  simp [hj]
end

/-! ### make([]T, n) -/
theorem run_make_rowN {P : Program} (t e : TypeId) (i : TypeInfo) (z : Value) (ht : P.underlying t = some (.slice e)) (hi : P.info? e = some i) (hz : i.zero = some z)
    (kl kc : IntKind) (n c : Nat) (hnc : n ≤ c) (hbytes : i.bytes * c ≤ 281474976710656) (h63 : c ≤ 9223372036854775807) (w : World) :
    (Instr.makeSlice t (.int kl (n : Int)) (.int kc (c : Int))).run P w = .ok (.slice (some ⟨w.heap.size, 0, none⟩) n c) (w.alloc (.cells (madeCells z.cells (c * i.size)) e)) := by
  have hb : (i.bytes : Int) * (c : Int) ≤ 281474976710656 := by
    have h : ((i.bytes * c : Nat) : Int) ≤ 281474976710656 := by omega
    rwa [Int.natCast_mul] at h
  have hr := run_make (P := P) w t e i z ht hi hz kl kc n c (by omega) (by omega) hb (by omega)
  simp only [Int.toNat_natCast] at hr
  exact hr
/-- make([]T, n), T one cell: a row of n zeros. -/
theorem run_make1 {P : Program} {T E : TypeId} {z : Value} {bytes : Nat} (el : El P T E z 1 bytes) (h1 : z.cells = #[z]) (x : Int) (n : Nat) (hx : x = n) (hn : bytes * n ≤ 281474976710656) (h63 : n ≤ 9223372036854775807) (w : World) :
    (Instr.makeSlice T (.int .i64 x) (.int .i64 x)).run P w = .ok (.slice (some ⟨w.heap.size, 0, none⟩) n n) (w.alloc (.cells (List.replicate n z).toArray E)) := by
  subst hx
  obtain ⟨i, hi, hz, hz1, hz2⟩ := el.info
  rw [run_make_rowN T E i z el.ht hi hz .i64 .i64 n n (Nat.le_refl _) (by rw [hz2]; exact hn) h63 w, hz1, h1]
  congr 3
  have : madeCells #[z] (n * 1) = (List.replicate n z).toArray := by
    unfold madeCells
    apply Array.ext
    · simp
    · intro j h1 h2
      have : j % 1 = 0 := Nat.mod_one j
      simp [this]
  rw [this]
theorem own_shape {w : World} {base : Nat} {e : TypeId} {size n : Nat} {v : Value} {xs : List Value} (h : w.ownsRow base e size v n xs) : ∃ A c, v = .slice A n c := by
  rcases ownsRow_forms h with ⟨rfl, rfl⟩ | ⟨g, cap, rfl⟩
  · exact ⟨_, _, rfl⟩
  · exact ⟨_, _, rfl⟩
theorem own_ne {w : World} {base k : Nat} {e : TypeId} {size n : Nat} {v : Value} {xs : List Value} (h : w.ownsRow base e size v n xs) (hk : k < base) : v.ownBlock ≠ some k := fun e => by
  have := (h.lt k e).1; omega
end Go.Dam

/-
  Plain laws of rises in a list: the piles of patience, and the length of the longest rise that ends at each place; no program in sight. Conditions: none.
-/
namespace Go.Dam
set_option linter.unusedVariables false
/-- The greatest of L[k], k < m, with f k < x; or 0. -/
def bestTo (f : Nat → Int) (L : List Nat) (x : Int) : Nat → Nat
  | 0 => 0
  | k + 1 => if f k < x ∧ bestTo f L x k < L.getD k 0 then L.getD k 0 else bestTo f L x k
/-- The lengths of the rises that end at the first n places. -/
def lensTo (f : Nat → Int) : Nat → List Nat
  | 0 => []
  | i + 1 => lensTo f i ++ [bestTo f (lensTo f i) (f i) i + 1]
theorem bestTo_0 (f : Nat → Int) (L : List Nat) (x : Int) : bestTo f L x 0 = 0 := rfl
theorem bestTo_yes {f : Nat → Int} {L : List Nat} {x : Int} {k : Nat} (h : f k < x) (g : bestTo f L x k < L.getD k 0) : bestTo f L x (k + 1) = L.getD k 0 := by rw [bestTo, if_pos ⟨h, g⟩]
theorem bestTo_no1 {f : Nat → Int} {L : List Nat} {x : Int} {k : Nat} (h : ¬ f k < x) : bestTo f L x (k + 1) = bestTo f L x k := by rw [bestTo, if_neg (fun e => h e.1)]
theorem bestTo_no2 {f : Nat → Int} {L : List Nat} {x : Int} {k : Nat} (h : ¬ bestTo f L x k < L.getD k 0) : bestTo f L x (k + 1) = bestTo f L x k := by rw [bestTo, if_neg (fun e => h e.2)]
theorem bestTo_ge {f : Nat → Int} {L : List Nat} {x : Int} : ∀ {m k : Nat}, k < m → f k < x → L.getD k 0 ≤ bestTo f L x m
  | m + 1, k, hk, hx => by
    rcases Nat.lt_or_ge k m with h | h
    · have := bestTo_ge (L := L) h hx
      rw [bestTo]; split
      · rename_i g; omega
      · exact this
    · obtain rfl : k = m := by omega
      rw [bestTo]; split
      · exact Nat.le_refl _
      · rename_i g
        have : ¬ bestTo f L x k < L.getD k 0 := fun e => g ⟨hx, e⟩
        omega
theorem bestTo_le {f : Nat → Int} {L : List Nat} {x : Int} {b : Nat} : ∀ {m : Nat}, (∀ k, k < m → f k < x → L.getD k 0 ≤ b) → bestTo f L x m ≤ b
  | 0, _ => Nat.zero_le _
  | m + 1, h => by
    have ih := bestTo_le (m := m) (f := f) (L := L) (x := x) (b := b) fun k hk hx => h k (by omega) hx
    rw [bestTo]; split
    · rename_i g; exact h m (by omega) g.1
    · exact ih
theorem lensTo_0 (f : Nat → Int) : lensTo f 0 = [] := rfl
theorem lensTo_succ (f : Nat → Int) (i : Nat) : lensTo f (i + 1) = lensTo f i ++ [bestTo f (lensTo f i) (f i) i + 1] := rfl
theorem lensTo_length (f : Nat → Int) : ∀ n, (lensTo f n).length = n
  | 0 => rfl
  | n + 1 => by rw [lensTo_succ, List.length_append, lensTo_length f n]; rfl
theorem lensTo_old {f : Nat → Int} {n i : Nat} (h : i < n) : (lensTo f (n + 1)).getD i 0 = (lensTo f n).getD i 0 := by
  rw [lensTo_succ, List.getD_eq_getElem?_getD, List.getElem?_append_left (by rw [lensTo_length]; exact h), ← List.getD_eq_getElem?_getD]
theorem lensTo_new (f : Nat → Int) (n : Nat) : (lensTo f (n + 1)).getD n 0 = bestTo f (lensTo f n) (f n) n + 1 := by
  rw [lensTo_succ, List.getD_eq_getElem?_getD, List.getElem?_append_right (by rw [lensTo_length]; exact Nat.le_refl _), lensTo_length, Nat.sub_self]; rfl
theorem lensTo_le {f : Nat → Int} : ∀ {n i : Nat}, i < n → 1 ≤ (lensTo f n).getD i 0 ∧ (lensTo f n).getD i 0 ≤ i + 1
  | n + 1, i, hi => by
    rcases Nat.lt_or_ge i n with h | h
    · rw [lensTo_old h]; exact lensTo_le h
    · obtain rfl : i = n := by omega
      rw [lensTo_new]
      have : bestTo f (lensTo f i) (f i) i ≤ i := bestTo_le fun k hk _ => by have := (lensTo_le (f := f) hk).2; omega
      omega
attribute [irreducible] bestTo lensTo
/-- A pile's last place. -/
def topP (p : List Nat) : Nat := p.getLastD 0
theorem topP_snoc (p : List Nat) (i : Nat) : topP (p ++ [i]) = i := by simp [topP]
theorem topP_mem {p : List Nat} (h : p ≠ []) : topP p ∈ p := by
  rcases List.eq_nil_or_concat p with rfl | ⟨q, x, rfl⟩
  · exact absurd rfl h
  · simp [topP]
theorem topP_at {p : List Nat} (h : p ≠ []) : p.getD (p.length - 1) 0 = topP p := by
  rcases List.eq_nil_or_concat p with rfl | ⟨q, x, rfl⟩
  · exact absurd rfl h
  · simp [topP]
/-- The piles of the places below i. -/
structure Piles (f : Nat → Int) (i : Nat) (ps : List (List Nat)) : Prop where
  ne : ∀ k, k < ps.length → ps.getD k [] ≠ []
  mem : ∀ k, k < ps.length → ∀ j, j ∈ ps.getD k [] ↔ j < i ∧ (lensTo f i).getD j 0 = k + 1
  len : ∀ j, j < i → (lensTo f i).getD j 0 ≤ ps.length
  asc : ∀ k, k < ps.length → (ps.getD k []).Pairwise fun a b => a < b ∧ f b ≤ f a
  tops : ∀ k k', k < k' → k' < ps.length → f (topP (ps.getD k [])) < f (topP (ps.getD k' []))
  prev : ∀ k, k + 1 < ps.length → ∀ j ∈ ps.getD (k + 1) [], ∃ j' ∈ ps.getD k [], j' < j ∧ f j' < f j ∧ ∀ x ∈ ps.getD k [], x < j → x ≤ j'
theorem Piles.nil (f : Nat → Int) : Piles f 0 [] := ⟨fun k h => absurd h (by simp), fun k h => absurd h (by simp), fun j h => absurd h (by omega), fun k h => absurd h (by simp), fun k k' h1 h2 => absurd h2 (by simp), fun k h => absurd h (by simp)⟩
/-- Where place i goes: the first pile whose top is not below it. -/
def PlaceAt (f : Nat → Int) (i : Nat) (ps : List (List Nat)) (K : Nat) : Prop := K ≤ ps.length ∧ (∀ k, k < K → f (topP (ps.getD k [])) < f i) ∧ (K < ps.length → f i ≤ f (topP (ps.getD K [])))
theorem Piles.top_le {f : Nat → Int} {i : Nat} {ps : List (List Nat)} (h : Piles f i ps) {k : Nat} (hk : k < ps.length) {j : Nat} (hj : j ∈ ps.getD k []) : f (topP (ps.getD k [])) ≤ f j := by
  have ha := h.asc k hk
  generalize ps.getD k [] = p at hj ha
  rcases List.eq_nil_or_concat p with rfl | ⟨q, x, rfl⟩
  · simp at hj
  · rw [List.concat_eq_append] at hj ha ⊢
    rw [topP_snoc]
    rw [List.pairwise_append] at ha
    rcases List.mem_append.1 hj with h1 | h1
    · exact (ha.2.2 j h1 x (by simp)).2
    · simp at h1; rw [h1]; exact Int.le_refl _
/-- The place's length is told by the pile. -/
theorem Piles.at_ {f : Nat → Int} {i : Nat} {ps : List (List Nat)} (h : Piles f i ps) {K : Nat} (hK : PlaceAt f i ps K) : (lensTo f (i + 1)).getD i 0 = K + 1 := by
  rw [lensTo_new]
  have h1 : bestTo f (lensTo f i) (f i) i ≤ K := bestTo_le fun j hj hf => by
    have hb := lensTo_le (f := f) hj
    have hl := h.len j hj
    obtain ⟨k, hk⟩ : ∃ k, (lensTo f i).getD j 0 = k + 1 := ⟨(lensTo f i).getD j 0 - 1, by omega⟩
    have hm := (h.mem k (by omega) j).2 ⟨hj, hk⟩
    have ht := h.top_le (by omega) hm
    rw [hk]
    rcases Nat.lt_or_ge k K with h2 | h2
    · exact h2
    · exfalso
      have h3 := hK.2.2 (by omega)
      rcases Nat.lt_or_ge K k with h4 | h4
      · have := h.tops K k h4 (by omega); omega
      · obtain rfl : k = K := by omega
        omega
  have h2 : K ≤ bestTo f (lensTo f i) (f i) i := by
    rcases Nat.eq_zero_or_pos K with h0 | h0
    · omega
    · have hkl := hK.1
      have hm := topP_mem (h.ne (K - 1) (by omega))
      have hj := (h.mem (K - 1) (by omega) _).1 hm
      have := bestTo_ge (L := lensTo f i) hj.1 (hK.2.1 (K - 1) (by omega))
      omega
  omega
theorem getD_put_same {α : Type} {l : List α} {k : Nat} (h : k < l.length) (x d : α) : (l.set k x).getD k d = x := by simp [h]
theorem getD_put_ne {α : Type} {l : List α} {k j : Nat} (h : k ≠ j) (x d : α) : (l.set k x).getD j d = l.getD j d := by simp [List.getD_eq_getElem?_getD, List.getElem?_set_ne h]
theorem getD_snoc_old {α : Type} {l : List α} {j : Nat} (h : j < l.length) (x d : α) : (l ++ [x]).getD j d = l.getD j d := by
  rw [List.getD_eq_getElem?_getD, List.getElem?_append_left h, ← List.getD_eq_getElem?_getD]
theorem getD_snoc_new {α : Type} {l : List α} (x d : α) : (l ++ [x]).getD l.length d = x := by
  rw [List.getD_eq_getElem?_getD, List.getElem?_append_right (Nat.le_refl _), Nat.sub_self]; rfl
/-- Place i is put on pile K (or on a new one): told by the piles afterwards. -/
theorem Piles.put {f : Nat → Int} {i : Nat} {ps qs : List (List Nat)} (h : Piles f i ps) {K : Nat} (hK : PlaceAt f i ps K) (hl : qs.length = max ps.length (K + 1)) (hq : qs.getD K [] = ps.getD K [] ++ [i]) (ho : ∀ k, k ≠ K → qs.getD k [] = ps.getD k []) : Piles f (i + 1) qs := by
  have hat := h.at_ hK
  have hKl := hK.1
  have mem_lt : ∀ k, k < ps.length → ∀ j ∈ ps.getD k [], j < i := fun k hk j hj => ((h.mem k hk j).1 hj).1
  have hnil : ps.length ≤ K → ps.getD K [] = [] := fun hle => by rw [List.getD_eq_getElem?_getD, List.getElem?_eq_none hle]; rfl
  have hold : ∀ k, k < qs.length → k ≠ K → k < ps.length := fun k hk hne => by omega
  have hfK : ∀ j ∈ ps.getD K [], j < i ∧ f i ≤ f j := fun j hj => by
    rcases Nat.lt_or_ge K ps.length with h1 | h1
    · have := h.top_le h1 hj; have := hK.2.2 h1; exact ⟨mem_lt K h1 j hj, by omega⟩
    · rw [hnil h1] at hj; simp at hj
  refine ⟨fun k hk => ?_, fun k hk j => ?_, fun j hj => ?_, fun k hk => ?_, fun k k' h1 h2 => ?_, fun k hk j hj => ?_⟩
  · by_cases hne : k = K
    · subst hne; rw [hq]; simp
    · rw [ho k hne]; exact h.ne k (hold k hk hne)
  · by_cases hne : k = K
    · subst hne
      rw [hq, List.mem_append, List.mem_singleton]
      constructor
      · rintro (h1 | h1)
        · have hlt := (hfK j h1).1
          rw [lensTo_old hlt]
          have hkp : k < ps.length := by
            rcases Nat.lt_or_ge k ps.length with h2 | h2
            · exact h2
            · rw [hnil h2] at h1; simp at h1
          exact ⟨by omega, ((h.mem k hkp j).1 h1).2⟩
        · subst h1; exact ⟨by omega, hat⟩
      · rintro ⟨h1, h2⟩
        rcases Nat.lt_or_ge j i with h3 | h3
        · rw [lensTo_old h3] at h2
          have := h.len j h3
          exact .inl ((h.mem k (by omega) j).2 ⟨h3, h2⟩)
        · exact .inr (by omega)
    · rw [ho k hne, h.mem k (hold k hk hne)]
      constructor
      · rintro ⟨h1, h2⟩; rw [lensTo_old h1]; exact ⟨by omega, h2⟩
      · rintro ⟨h1, h2⟩
        rcases Nat.lt_or_ge j i with h3 | h3
        · rw [lensTo_old h3] at h2; exact ⟨h3, h2⟩
        · obtain rfl : j = i := by omega
          rw [hat] at h2; omega
  · rcases Nat.lt_or_ge j i with h3 | h3
    · rw [lensTo_old h3]; have := h.len j h3; omega
    · obtain rfl : j = i := by omega
      rw [hat]; omega
  · by_cases hne : k = K
    · subst hne
      rw [hq, List.pairwise_append]
      refine ⟨?_, by simp, fun a ha b hb => ?_⟩
      · rcases Nat.lt_or_ge k ps.length with h1 | h1
        · exact h.asc k h1
        · rw [hnil h1]; exact .nil
      · simp at hb; subst hb; exact hfK a ha
    · rw [ho k hne]; exact h.asc k (hold k hk hne)
  · by_cases hne : k = K
    · subst hne
      have h3 := hold k' h2 (by omega)
      rw [hq, topP_snoc, ho k' (by omega)]
      have := h.tops k k' h1 h3
      have := hK.2.2 (by omega)
      omega
    · by_cases hne' : k' = K
      · subst hne'
        rw [hq, topP_snoc, ho k hne]
        exact hK.2.1 k h1
      · rw [ho k hne, ho k' hne']
        exact h.tops k k' h1 (hold k' h2 hne')
  · by_cases hne' : k + 1 = K
    · subst hne'
      rw [hq] at hj
      rw [ho k (by omega)]
      rcases List.mem_append.1 hj with h1 | h1
      · have hkp : k + 1 < ps.length := by
          rcases Nat.lt_or_ge (k + 1) ps.length with h2 | h2
          · exact h2
          · rw [hnil h2] at h1; simp at h1
        exact h.prev k hkp j h1
      · simp at h1; subst h1
        have hkp : k < ps.length := by omega
        refine ⟨_, topP_mem (h.ne k hkp), mem_lt k hkp _ (topP_mem (h.ne k hkp)), hK.2.1 k (by omega), fun x hx _ => ?_⟩
        have ha := h.asc k hkp
        generalize ps.getD k [] = p at hx ha
        rcases List.eq_nil_or_concat p with rfl | ⟨q, y, rfl⟩
        · simp at hx
        · rw [List.concat_eq_append] at hx ha ⊢
          rw [topP_snoc]
          rw [List.pairwise_append] at ha
          rcases List.mem_append.1 hx with h4 | h4
          · have := (ha.2.2 x h4 y (by simp)).1; omega
          · simp at h4; omega
    · have hkp : k + 1 < ps.length := hold (k + 1) hk hne'
      rw [ho (k + 1) hne'] at hj
      obtain ⟨j', h1, h2, h3, h4⟩ := h.prev k hkp j hj
      by_cases hne : k = K
      · subst hne
        rw [hq]
        refine ⟨j', List.mem_append.2 (.inl h1), h2, h3, fun x hx hxj => ?_⟩
        rcases List.mem_append.1 hx with h5 | h5
        · exact h4 x h5 hxj
        · simp at h5; subst h5
          have := mem_lt (k + 1) hkp j hj; omega
      · rw [ho k hne]; exact ⟨j', h1, h2, h3, h4⟩
end Go.Dam

/-
  Plain arithmetic on words of 64 bits, no program in sight: how many bits are set (by halves, as math/bits counts them), and a word turned round. Conditions: each word is below 2 to the 64th.
-/
namespace Go.Dam
set_option linter.unusedVariables false
open Go

/-- How many of the bits below place i are set. -/
def cnt (n : Nat) : Nat → Nat
  | 0 => 0
  | i + 1 => cnt n i + n / 2 ^ i % 2
theorem cnt_le (n i : Nat) : cnt n i ≤ i := by
  induction i with
  | zero => exact Nat.le_refl _
  | succ i ih => simp only [cnt]; have := Nat.mod_lt (n / 2 ^ i) (by omega : 0 < 2); omega
theorem cnt_mono (n : Nat) {i j : Nat} (h : i ≤ j) : cnt n i ≤ cnt n j := by
  induction j with
  | zero => simp [Nat.le_zero.1 h]
  | succ j ih =>
    rcases Nat.lt_or_ge i (j + 1) with hlt | hge
    · have := ih (by omega); simp only [cnt]; omega
    · rw [Nat.le_antisymm h hge]; exact Nat.le_refl _
theorem div_pow_add (n i j : Nat) : n / 2 ^ (i + j) = n / 2 ^ i / 2 ^ j := by rw [Nat.pow_add, Nat.div_div_eq_div_mul]
theorem cnt_add (n i j : Nat) : cnt n (i + j) = cnt n i + cnt (n / 2 ^ i) j := by
  induction j with
  | zero => simp [cnt]
  | succ j ih =>
    show cnt n (i + j) + n / 2 ^ (i + j) % 2 = _
    rw [ih, div_pow_add]; simp only [cnt]; omega
theorem cnt_mod (n : Nat) {i j : Nat} (h : i ≤ j) : cnt (n % 2 ^ j) i = cnt n i := by
  induction i with
  | zero => rfl
  | succ i ih =>
    simp only [cnt]
    rw [ih (by omega)]
    have : n % 2 ^ j / 2 ^ i % 2 = n / 2 ^ i % 2 := by
      have h1 : (n % 2 ^ j).testBit i = n.testBit i := by rw [Nat.testBit_mod_two_pow]; simp; intro; omega
      simp only [Nat.testBit, Nat.shiftRight_eq_div_pow, Nat.one_and_eq_mod_two] at h1
      have a := Nat.mod_two_eq_zero_or_one (n % 2 ^ j / 2 ^ i)
      have b := Nat.mod_two_eq_zero_or_one (n / 2 ^ i)
      rcases a with a | a <;> rcases b with b | b <;> simp [a, b] at h1 ⊢
    rw [this]
theorem cnt_zero (i : Nat) : cnt 0 i = 0 := by
  induction i with
  | zero => rfl
  | succ i ih => simp [cnt, ih]

/-- '&' part by part. -/
theorem and_parts (k a b c d : Nat) (ha : a < 2 ^ k) (hc : c < 2 ^ k) : (a + 2 ^ k * b) &&& (c + 2 ^ k * d) = (a &&& c) + 2 ^ k * (b &&& d) := by
  have hac : (a &&& c) < 2 ^ k := Nat.and_lt_two_pow _ hc
  apply Nat.eq_of_testBit_eq
  intro i
  rw [Nat.testBit_and, Nat.add_comm a, Nat.add_comm c, Nat.add_comm (a &&& c), Nat.testBit_two_pow_mul_add _ ha, Nat.testBit_two_pow_mul_add _ hc, Nat.testBit_two_pow_mul_add _ hac]
  split <;> simp [Nat.testBit_and]

/-! ### math/bits.OnesCount64's steps -/
def oc1 (n : Nat) : Nat := (n / 2 &&& 6148914691236517205) + (n &&& 6148914691236517205)
def oc2 (n : Nat) : Nat := (n / 4 &&& 3689348814741910323) + (n &&& 3689348814741910323)
def oc3 (n : Nat) : Nat := (n / 16 + n) &&& 1085102592571150095
def oc4 (n : Nat) : Nat := n + n / 256
def oc5 (n : Nat) : Nat := n + n / 65536
def oc6 (n : Nat) : Nat := n + n / 4294967296


def rep (d : Nat) : Nat → Nat
  | 0 => 0
  | m + 1 => d + 256 * rep d m
/-- Each byte is put through f. -/
def bytewise (f : Nat → Nat) : Nat → Nat → Nat
  | 0, _ => 0
  | m + 1, n => f (n % 256) + 256 * bytewise f m (n / 256)
theorem bytewise_comp (f g : Nat → Nat) (hg : ∀ b, b < 256 → g b < 256) (m n : Nat) : bytewise f m (bytewise g m n) = bytewise (fun b => f (g b)) m n := by
  induction m generalizing n with
  | zero => rfl
  | succ m ih =>
    have hb := hg (n % 256) (Nat.mod_lt _ (by omega))
    simp only [bytewise]
    rw [show (g (n % 256) + 256 * bytewise g m (n / 256)) % 256 = g (n % 256) from by omega, show (g (n % 256) + 256 * bytewise g m (n / 256)) / 256 = bytewise g m (n / 256) from by omega, ih]
theorem bytewise_congr {f g : Nat → Nat} (h : ∀ b, b < 256 → f b = g b) (m n : Nat) : bytewise f m n = bytewise g m n := by
  induction m generalizing n with
  | zero => rfl
  | succ m ih => simp only [bytewise]; rw [h _ (Nat.mod_lt _ (by omega)), ih]
theorem low85 : ∀ r < 256, ∀ b < 2, (r / 2 + 128 * b) &&& 85 = r / 2 &&& 85 := by decide +kernel
theorem low51 : ∀ r < 256, ∀ b < 4, (r / 4 + 64 * b) &&& 51 = r / 4 &&& 51 := by decide +kernel
theorem oc1_bytes (m n : Nat) : (n / 2 &&& rep 85 m) + (n &&& rep 85 m) = bytewise (fun b => (b / 2 &&& 85) + (b &&& 85)) m n := by
  induction m generalizing n with
  | zero => simp [rep, bytewise]
  | succ m ih =>
    simp only [rep, bytewise]
    rw [← ih (n / 256)]
    have h1 : n &&& (85 + 256 * rep 85 m) = (n % 256 &&& 85) + 256 * (n / 256 &&& rep 85 m) := by
      have := and_parts 8 (n % 256) (n / 256) 85 (rep 85 m) (Nat.mod_lt _ (by omega)) (by omega)
      rwa [show n % 256 + 2 ^ 8 * (n / 256) = n from by omega] at this
    have h2 : n / 2 &&& (85 + 256 * rep 85 m) = (n % 256 / 2 &&& 85) + 256 * (n / 256 / 2 &&& rep 85 m) := by
      have := and_parts 8 (n % 256 / 2 + 128 * (n / 256 % 2)) (n / 256 / 2) 85 (rep 85 m) (by omega) (by omega)
      rw [low85 _ (Nat.mod_lt _ (by omega)) _ (Nat.mod_lt _ (by omega))] at this
      rwa [show n % 256 / 2 + 128 * (n / 256 % 2) + 2 ^ 8 * (n / 256 / 2) = n / 2 from by omega] at this
    rw [h1, h2]; omega
theorem oc2_bytes (m n : Nat) : (n / 4 &&& rep 51 m) + (n &&& rep 51 m) = bytewise (fun b => (b / 4 &&& 51) + (b &&& 51)) m n := by
  induction m generalizing n with
  | zero => simp [rep, bytewise]
  | succ m ih =>
    simp only [rep, bytewise]
    rw [← ih (n / 256)]
    have h1 : n &&& (51 + 256 * rep 51 m) = (n % 256 &&& 51) + 256 * (n / 256 &&& rep 51 m) := by
      have := and_parts 8 (n % 256) (n / 256) 51 (rep 51 m) (Nat.mod_lt _ (by omega)) (by omega)
      rwa [show n % 256 + 2 ^ 8 * (n / 256) = n from by omega] at this
    have h2 : n / 4 &&& (51 + 256 * rep 51 m) = (n % 256 / 4 &&& 51) + 256 * (n / 256 / 4 &&& rep 51 m) := by
      have := and_parts 8 (n % 256 / 4 + 64 * (n / 256 % 4)) (n / 256 / 4) 51 (rep 51 m) (by omega) (by omega)
      rw [low51 _ (Nat.mod_lt _ (by omega)) _ (Nat.mod_lt _ (by omega))] at this
      rwa [show n % 256 / 4 + 64 * (n / 256 % 4) + 2 ^ 8 * (n / 256 / 4) = n / 4 from by omega] at this
    rw [h1, h2]; omega
theorem oc3_bytes (f : Nat → Nat) (hf : ∀ b, b < 256 → f b ≤ 68 ∧ f b % 16 ≤ 4) (m n : Nat) : (bytewise f m n / 16 + bytewise f m n) &&& rep 15 m = bytewise (fun b => f b / 16 + f b &&& 15) m n := by
  induction m generalizing n with
  | zero => simp [rep, bytewise]
  | succ m ih =>
    have hb := hf (n % 256) (Nat.mod_lt _ (by omega))
    have hq : bytewise f m (n / 256) % 16 ≤ 4 := by
      cases m with
      | zero => simp [bytewise]
      | succ m => have := (hf (n / 256 % 256) (Nat.mod_lt _ (by omega))).2; simp only [bytewise]; omega
    simp only [rep, bytewise]
    rw [← ih (n / 256)]
    generalize hy : bytewise f m (n / 256) = q at *
    have := and_parts 8 (f (n % 256) / 16 + 16 * (q % 16) + f (n % 256)) (q / 16 + q) 15 (rep 15 m) (by omega) (by omega)
    rw [show f (n % 256) / 16 + 16 * (q % 16) + f (n % 256) + 2 ^ 8 * (q / 16 + q) = (f (n % 256) + 256 * q) / 16 + (f (n % 256) + 256 * q) from by omega] at this
    rw [show (15 + 256 * rep 15 m) = 15 + 2 ^ 8 * rep 15 m from rfl, this]
    congr 1
    rw [Nat.and_two_pow_sub_one_eq_mod _ 4, Nat.and_two_pow_sub_one_eq_mod _ 4]; omega
theorem oc_byte : ∀ b < 256, (((b / 2 &&& 85) + (b &&& 85)) / 4 &&& 51) + ((b / 2 &&& 85) + (b &&& 85) &&& 51) ≤ 68 ∧ ((((b / 2 &&& 85) + (b &&& 85)) / 4 &&& 51) + ((b / 2 &&& 85) + (b &&& 85) &&& 51)) % 16 ≤ 4 := by decide +kernel
theorem oc_byte' : ∀ b < 256, ((((b / 2 &&& 85) + (b &&& 85)) / 4 &&& 51) + ((b / 2 &&& 85) + (b &&& 85) &&& 51)) / 16 + ((((b / 2 &&& 85) + (b &&& 85)) / 4 &&& 51) + ((b / 2 &&& 85) + (b &&& 85) &&& 51)) &&& 15 = cnt b 8 := by decide +kernel
theorem oc_byte1 : ∀ b < 256, (b / 2 &&& 85) + (b &&& 85) < 256 := by decide +kernel
theorem oc123 (n : Nat) : oc3 (oc2 (oc1 n)) = bytewise (fun b => cnt b 8) 8 n := by
  have h1 : oc1 n = _ := oc1_bytes 8 n
  have h2 : oc2 (oc1 n) = _ := oc2_bytes 8 (oc1 n)
  rw [h1, bytewise_comp _ _ oc_byte1] at h2
  have h3 : oc3 (oc2 (oc1 n)) = (oc2 (oc1 n) / 16 + oc2 (oc1 n)) &&& rep 15 8 := rfl
  rw [h1, h2, oc3_bytes _ oc_byte] at h3
  rw [h1, h2, h3]
  exact bytewise_congr oc_byte' 8 n
theorem cnt_byte (n i : Nat) : cnt n (8 + i) = cnt (n % 256) 8 + cnt (n / 256) i := by
  rw [cnt_add, ← cnt_mod n (Nat.le_refl 8)]
theorem div_low (a b B : Nat) (h : a < B) : (a + B * b) / B = b := by
  rw [Nat.add_mul_div_left _ _ (by omega), Nat.div_eq_of_lt h, Nat.zero_add]
theorem half8 (p0 p1 p2 p3 p4 p5 p6 p7 : Nat) (h0 : p0 ≤ 8) (h1 : p1 ≤ 8) (h2 : p2 ≤ 8) (h3 : p3 ≤ 8) (h4 : p4 ≤ 8) (h5 : p5 ≤ 8) (h6 : p6 ≤ 8) (h7 : p7 ≤ 8) :
    p0 + 256 * (p1 + 256 * (p2 + 256 * (p3 + 256 * (p4 + 256 * (p5 + 256 * (p6 + 256 * (p7 + 256 * 0))))))) + (p0 + 256 * (p1 + 256 * (p2 + 256 * (p3 + 256 * (p4 + 256 * (p5 + 256 * (p6 + 256 * (p7 + 256 * 0)))))))) / 256 =
    (p0 + p1) + 256 * ((p1 + p2) + 256 * ((p2 + p3) + 256 * ((p3 + p4) + 256 * ((p4 + p5) + 256 * ((p5 + p6) + 256 * ((p6 + p7) + 256 * p7)))))) := by
  rw [div_low _ _ 256 (by omega)]; omega
theorem half8b (p0 p1 p2 p3 p4 p5 p6 p7 : Nat) (h0 : p0 ≤ 16) (h1 : p1 ≤ 16) (h2 : p2 ≤ 16) (h3 : p3 ≤ 16) (h4 : p4 ≤ 16) (h5 : p5 ≤ 16) (h6 : p6 ≤ 16) (h7 : p7 ≤ 16) :
    p0 + 256 * (p1 + 256 * (p2 + 256 * (p3 + 256 * (p4 + 256 * (p5 + 256 * (p6 + 256 * p7)))))) + (p0 + 256 * (p1 + 256 * (p2 + 256 * (p3 + 256 * (p4 + 256 * (p5 + 256 * (p6 + 256 * p7))))))) / 65536 =
    (p0 + p2) + 256 * ((p1 + p3) + 256 * ((p2 + p4) + 256 * ((p3 + p5) + 256 * ((p4 + p6) + 256 * ((p5 + p7) + 256 * (p6 + 256 * p7)))))) := by
  have : p0 + 256 * (p1 + 256 * (p2 + 256 * (p3 + 256 * (p4 + 256 * (p5 + 256 * (p6 + 256 * p7)))))) = (p0 + 256 * p1) + 65536 * (p2 + 256 * (p3 + 256 * (p4 + 256 * (p5 + 256 * (p6 + 256 * p7))))) := by omega
  rw [this, div_low _ _ 65536 (by omega)]; omega
theorem half8c (p0 p1 p2 p3 p4 p5 p6 p7 : Nat) (h0 : p0 ≤ 32) (h1 : p1 ≤ 32) (h2 : p2 ≤ 32) (h3 : p3 ≤ 32) (h4 : p4 ≤ 32) (h5 : p5 ≤ 32) (h6 : p6 ≤ 32) (h7 : p7 ≤ 32) :
    (p0 + 256 * (p1 + 256 * (p2 + 256 * (p3 + 256 * (p4 + 256 * (p5 + 256 * (p6 + 256 * p7)))))) + (p0 + 256 * (p1 + 256 * (p2 + 256 * (p3 + 256 * (p4 + 256 * (p5 + 256 * (p6 + 256 * p7))))))) / 4294967296) % 128 = p0 + p4 := by
  have : p0 + 256 * (p1 + 256 * (p2 + 256 * (p3 + 256 * (p4 + 256 * (p5 + 256 * (p6 + 256 * p7)))))) = (p0 + 256 * (p1 + 256 * (p2 + 256 * p3))) + 4294967296 * (p4 + 256 * (p5 + 256 * (p6 + 256 * p7))) := by omega
  rw [this, div_low _ _ 4294967296 (by omega)]; omega
theorem ones_count (n : Nat) : oc6 (oc5 (oc4 (oc3 (oc2 (oc1 n))))) % 128 = cnt n 64 := by
  have key : cnt n 64 = _ := cnt_byte n 56
  rw [show (56 : Nat) = 8 + 48 from rfl, cnt_byte, show (48 : Nat) = 8 + 40 from rfl, cnt_byte, show (40 : Nat) = 8 + 32 from rfl, cnt_byte, show (32 : Nat) = 8 + 24 from rfl, cnt_byte, show (24 : Nat) = 8 + 16 from rfl, cnt_byte,
    show (16 : Nat) = 8 + 8 from rfl, cnt_byte, show cnt (n / 256 / 256 / 256 / 256 / 256 / 256 / 256) 8 = cnt (n / 256 / 256 / 256 / 256 / 256 / 256 / 256 % 256) 8 from (cnt_mod _ (Nat.le_refl 8)).symm] at key
  rw [key, oc123]
  simp only [bytewise, oc4, oc5, oc6]
  have b0 := cnt_le (n % 256) 8
  have b1 := cnt_le (n / 256 % 256) 8
  have b2 := cnt_le (n / 256 / 256 % 256) 8
  have b3 := cnt_le (n / 256 / 256 / 256 % 256) 8
  have b4 := cnt_le (n / 256 / 256 / 256 / 256 % 256) 8
  have b5 := cnt_le (n / 256 / 256 / 256 / 256 / 256 % 256) 8
  have b6 := cnt_le (n / 256 / 256 / 256 / 256 / 256 / 256 % 256) 8
  have b7 := cnt_le (n / 256 / 256 / 256 / 256 / 256 / 256 / 256 % 256) 8
  generalize cnt (n % 256) 8 = p0 at *
  generalize cnt (n / 256 % 256) 8 = p1 at *
  generalize cnt (n / 256 / 256 % 256) 8 = p2 at *
  generalize cnt (n / 256 / 256 / 256 % 256) 8 = p3 at *
  generalize cnt (n / 256 / 256 / 256 / 256 % 256) 8 = p4 at *
  generalize cnt (n / 256 / 256 / 256 / 256 / 256 % 256) 8 = p5 at *
  generalize cnt (n / 256 / 256 / 256 / 256 / 256 / 256 % 256) 8 = p6 at *
  generalize cnt (n / 256 / 256 / 256 / 256 / 256 / 256 / 256 % 256) 8 = p7 at *
  clear key
  have e1 := half8 p0 p1 p2 p3 p4 p5 p6 p7 b0 b1 b2 b3 b4 b5 b6 b7
  rw [e1]
  clear e1
  have e2 := half8b (p0 + p1) (p1 + p2) (p2 + p3) (p3 + p4) (p4 + p5) (p5 + p6) (p6 + p7) p7 (by omega) (by omega) (by omega) (by omega) (by omega) (by omega) (by omega) (by omega)
  rw [e2]
  clear e2
  rw [half8c (p0 + p1 + (p2 + p3)) (p1 + p2 + (p3 + p4)) (p2 + p3 + (p4 + p5)) (p3 + p4 + (p5 + p6)) (p4 + p5 + (p6 + p7)) (p5 + p6 + p7) (p6 + p7) p7 (by omega) (by omega) (by omega) (by omega) (by omega) (by omega) (by omega) (by omega)]
  omega

/-! ### math/bits.Reverse64 -/
def rv (k m n : Nat) : Nat := (n / 2 ^ k &&& m) ||| ((n &&& m) * 2 ^ k)
def Swaps (k m : Nat) : Prop := ∀ i < 64, (m.testBit i = true → i ^^^ k = i + k ∧ i + k < 64 ∧ (k ≤ i → m.testBit (i - k) = false)) ∧ (m.testBit i = false → k ≤ i ∧ m.testBit (i - k) = true ∧ i ^^^ k = i - k)
theorem rv_bit {k m : Nat} (h : Swaps k m) (n i : Nat) (hi : i < 64) : (rv k m n).testBit i = n.testBit (i ^^^ k) := by
  obtain ⟨h1, h2⟩ := h i hi
  unfold rv
  rw [Nat.testBit_or, Nat.testBit_and, Nat.testBit_mul_two_pow, Nat.testBit_and, Nat.testBit_div_two_pow]
  cases hm : m.testBit i with
  | true =>
    obtain ⟨e, _, hk⟩ := h1 hm
    rw [e]
    by_cases hki : k ≤ i
    · rw [hk hki]; simp [Nat.add_comm]
    · simp [hki, Nat.add_comm]
  | false =>
    obtain ⟨hki, hm', e⟩ := h2 hm
    rw [e, hm']; simp [hki]
theorem sw1 : Swaps 1 6148914691236517205 := by unfold Swaps; decide +kernel
theorem sw2 : Swaps 2 3689348814741910323 := by unfold Swaps; decide +kernel
theorem sw4 : Swaps 4 1085102592571150095 := by unfold Swaps; decide +kernel
theorem sw8 : Swaps 8 71777214294589695 := by unfold Swaps; decide +kernel
theorem sw16 : Swaps 16 281470681808895 := by unfold Swaps; decide +kernel
theorem sw32 : Swaps 32 4294967295 := by unfold Swaps; decide +kernel
theorem xors : ∀ i < 64, ((((((i ^^^ 32) ^^^ 16) ^^^ 8) ^^^ 4) ^^^ 2) ^^^ 1) = 63 - i ∧ (i ^^^ 32) < 64 ∧ ((i ^^^ 32) ^^^ 16) < 64 ∧ (((i ^^^ 32) ^^^ 16) ^^^ 8) < 64 ∧ ((((i ^^^ 32) ^^^ 16) ^^^ 8) ^^^ 4) < 64 ∧ (((((i ^^^ 32) ^^^ 16) ^^^ 8) ^^^ 4) ^^^ 2) < 64 := by decide +kernel
def rev64 (n : Nat) : Nat := rv 32 4294967295 (rv 16 281470681808895 (rv 8 71777214294589695 (rv 4 1085102592571150095 (rv 2 3689348814741910323 (rv 1 6148914691236517205 n)))))
theorem rev64_bit (n i : Nat) (hi : i < 64) : (rev64 n).testBit i = n.testBit (63 - i) := by
  obtain ⟨e, h1, h2, h3, h4, h5⟩ := xors i hi
  unfold rev64
  rw [rv_bit sw32 _ _ hi, rv_bit sw16 _ _ h1, rv_bit sw8 _ _ h2, rv_bit sw4 _ _ h3, rv_bit sw2 _ _ h4, rv_bit sw1 _ _ h5, e]
/-- Bit by bit: the i lowest bits, the lowest one highest. -/
def turned (n : Nat) : Nat → Nat
  | 0 => 0
  | i + 1 => 2 * turned n i + n / 2 ^ i % 2
theorem turned_bit (n i j : Nat) : (turned n i).testBit j = (decide (j < i) && n.testBit (i - 1 - j)) := by
  induction i generalizing j with
  | zero => simp [turned]
  | succ i ih =>
    have hb : n / 2 ^ i % 2 < 2 ^ 1 := Nat.mod_lt _ (by omega)
    have := Nat.testBit_two_pow_mul_add (turned n i) hb j
    simp only [turned]
    rw [show 2 * turned n i = 2 ^ 1 * turned n i from rfl, this]
    by_cases hj : j < 1
    · have hj0 : j = 0 := by omega
      subst hj0
      simp [Nat.testBit, Nat.shiftRight_eq_div_pow, Nat.one_and_eq_mod_two]
    · rw [if_neg hj, ih]
      have e : i - 1 - (j - 1) = i + 1 - 1 - j := by omega
      rw [e]
      congr 1
      simp; omega
theorem turned_lt (n i : Nat) : turned n i < 2 ^ i := by
  induction i with
  | zero => simp [turned]
  | succ i ih => simp only [turned]; have := Nat.mod_lt (n / 2 ^ i) (by omega : 0 < 2); rw [Nat.pow_succ]; omega
theorem rv_lt {k m n : Nat} (hm : m * 2 ^ k < 2 ^ 64) (hm' : m < 2 ^ 64) : rv k m n < 2 ^ 64 := by
  unfold rv
  refine Nat.or_lt_two_pow (Nat.and_lt_two_pow _ hm') ?_
  have : n &&& m ≤ m := Nat.and_le_right
  exact Nat.lt_of_le_of_lt (Nat.mul_le_mul_right _ this) hm
theorem rev_turned (n : Nat) : rev64 n = turned n 64 := by
  apply Nat.eq_of_testBit_eq
  intro i
  rw [turned_bit]
  by_cases hi : i < 64
  · rw [rev64_bit _ _ hi]; simp [hi]
  · have h1 : rev64 n < 2 ^ 64 := rv_lt (by decide) (by decide)
    have h2 : rev64 n < 2 ^ i := Nat.lt_of_lt_of_le h1 (Nat.pow_le_pow_right (by omega) (by omega))
    rw [Nat.testBit_lt_two_pow h2]; simp [hi]
/-- What the bit-by-bit sum has gathered behind i rounds. -/
theorem turned_step (n i : Nat) (hi : i < 64) : 2 ^ (64 - i) * turned n i + n / 2 ^ i % 2 * 2 ^ (63 - i) = 2 ^ (64 - (i + 1)) * turned n (i + 1) := by
  simp only [turned]
  rw [show 64 - i = (63 - i) + 1 from by omega, show 64 - (i + 1) = 63 - i from by omega, Nat.pow_succ, Nat.mul_add, Nat.mul_comm (n / 2 ^ i % 2)]
  rw [Nat.mul_assoc]

/-! ### '&', '|', '^' at int, both sides not below 0 -/
theorem ofInt_i64 (a : Nat) (ha : a < 9223372036854775808) : (BitVec.ofInt 64 (a : Int)).toNat = a := by
  rw [BitVec.ofInt_natCast, BitVec.toNat_ofNat]; exact Nat.mod_eq_of_lt (by omega)
theorem i64_and_nat (a b : Nat) (ha : a < 9223372036854775808) (hb : b < 9223372036854775808) : bits .and .i64 (a : Int) (b : Int) = ((a &&& b : Nat) : Int) := by
  have hx : a &&& b < 2 ^ 63 := Nat.and_lt_two_pow _ (by omega)
  show IntKind.i64.wrap ((BitVec.ofInt 64 (a : Int) &&& BitVec.ofInt 64 (b : Int)).toNat : Int) = _
  rw [BitVec.toNat_and, ofInt_i64 a ha, ofInt_i64 b hb, IntKind.wrap_i64]
  omega
theorem i64_or_nat (a b : Nat) (ha : a < 9223372036854775808) (hb : b < 9223372036854775808) : bits .or .i64 (a : Int) (b : Int) = ((a ||| b : Nat) : Int) := by
  have hx : a ||| b < 2 ^ 63 := Nat.or_lt_two_pow (by omega) (by omega)
  show IntKind.i64.wrap ((BitVec.ofInt 64 (a : Int) ||| BitVec.ofInt 64 (b : Int)).toNat : Int) = _
  rw [BitVec.toNat_or, ofInt_i64 a ha, ofInt_i64 b hb, IntKind.wrap_i64]
  omega
theorem and_u64 (x : Int) (a m : Nat) (hx : x = (a : Nat)) (ha : a < 18446744073709551616) (hm : m < 18446744073709551616) : bits .and .u64 x (m : Int) = ((a &&& m : Nat) : Int) := by subst hx; exact u64_and_nat a m ha hm
theorem or_u64 (x y : Int) (a m : Nat) (hx : x = (a : Nat)) (hy : y = (m : Nat)) (ha : a < 18446744073709551616) (hm : m < 18446744073709551616) : bits .or .u64 x y = ((a ||| m : Nat) : Int) := by subst hx hy; exact u64_or_nat a m ha hm
theorem and_i64 (x : Int) (a m : Nat) (hx : x = (a : Nat)) (ha : a < 9223372036854775808) (hm : m < 9223372036854775808) : bits .and .i64 x (m : Int) = ((a &&& m : Nat) : Int) := by subst hx; exact i64_and_nat a m ha hm
/-- Bit i of a word. -/
theorem bit_u64 (n i : Nat) (hn : n < 18446744073709551616) : bits .and .u64 ((n : Int) / 2 ^ i) 1 = ((n / 2 ^ i % 2 : Nat) : Int) := by
  have h : n / 2 ^ i ≤ n := Nat.div_le_self _ _
  have := and_u64 ((n : Int) / 2 ^ i) (n / 2 ^ i) 1 (by simp) (by omega) (by decide)
  rw [Nat.and_one_is_mod] at this
  exact this
theorem bit_test (n i : Nat) : (((n / 2 ^ i % 2 : Nat) : Int) == 1) = n.testBit i := by
  simp only [Nat.testBit, Nat.shiftRight_eq_div_pow, Nat.one_and_eq_mod_two]
  rcases Nat.mod_two_eq_zero_or_one (n / 2 ^ i) with h | h <;> rw [h] <;> rfl
theorem wrap_u64 (x : Int) : IntKind.u64.wrap x = x % 18446744073709551616 := by simp [IntKind.wrap, IntKind.bits, IntKind.signed]
/-- The mask of the i lowest bits, as Go makes it: 1<<i - 1. -/
theorem mask_u64 (i : Nat) (hi : i ≤ 64) : IntKind.u64.wrap (IntKind.u64.wrap (2 ^ i) - 1) = ((2 ^ i - 1 : Nat) : Int) := by
  rw [wrap_u64, wrap_u64]
  have h1 : 1 ≤ 2 ^ i := Nat.one_le_two_pow
  have e : ((2 : Int) ^ i) = ((2 ^ i : Nat) : Int) := by simp
  rcases Nat.lt_or_ge i 64 with h | h
  · have h2 : 2 ^ i < 2 ^ 64 := Nat.pow_lt_pow_right (by omega) h
    rw [e]; omega
  · obtain rfl : i = 64 := by omega
    decide
theorem mask_and (n i : Nat) (hn : n < 18446744073709551616) (hi : i ≤ 64) : bits .and .u64 (n : Int) (IntKind.u64.wrap (IntKind.u64.wrap (2 ^ i) - 1)) = ((n % 2 ^ i : Nat) : Int) := by
  rw [mask_u64 i hi]
  have h2 : 2 ^ i ≤ 2 ^ 64 := Nat.pow_le_pow_right (by omega) hi
  have := and_u64 (n : Int) n (2 ^ i - 1) rfl hn (by omega)
  rwa [Nat.and_two_pow_sub_one_eq_mod] at this
theorem cnt_low (n i : Nat) (hi : i ≤ 64) : cnt (n % 2 ^ i) 64 = cnt n i := by
  rw [show (64 : Nat) = i + (64 - i) from by omega, cnt_add, cnt_mod n (Nat.le_refl i), Nat.div_eq_of_lt (Nat.mod_lt _ (Nat.two_pow_pos i)), cnt_zero, Nat.add_zero]
theorem mod_of_test (n i : Nat) : n / 2 ^ i % 2 = if n.testBit i then 1 else 0 := by
  simp only [Nat.testBit, Nat.shiftRight_eq_div_pow, Nat.one_and_eq_mod_two]
  rcases Nat.mod_two_eq_zero_or_one (n / 2 ^ i) with h | h <;> rw [h] <;> rfl
theorem cnt_0 (n : Nat) : cnt n 0 = 0 := rfl
theorem cnt_succ (n i : Nat) : cnt n (i + 1) = cnt n i + n / 2 ^ i % 2 := rfl
theorem turned_le (n i : Nat) (hi : i ≤ 64) : 2 ^ (64 - i) * turned n i < 18446744073709551616 := by
  have h := turned_lt n i
  have h1 : 2 ^ (64 - i) * turned n i < 2 ^ (64 - i) * 2 ^ i := Nat.mul_lt_mul_of_pos_left h (Nat.two_pow_pos _)
  rw [← Nat.pow_add, show 64 - i + i = 64 from by omega] at h1
  exact h1
theorem turned_0 (n : Nat) : turned n 0 = 0 := rfl
theorem pow_u64 (i : Nat) (hi : i < 64) : IntKind.u64.wrap (2 ^ i) = ((2 ^ i : Nat) : Int) := by
  have h2 : 2 ^ i < 2 ^ 64 := Nat.pow_lt_pow_right (by omega) hi
  have e : ((2 : Int) ^ i) = ((2 ^ i : Nat) : Int) := by simp
  rw [wrap_u64, e]
  generalize (2 ^ i : Nat) = q at *
  omega
theorem rv_facts (k m n : Nat) (K M : Int) (hK : K = 2 ^ k) (hM : M = (m : Nat)) (hn : n < 18446744073709551616) (hm : m < 18446744073709551616) (hmk : m * 2 ^ k < 18446744073709551616) :
    ∃ a b : Nat, (a : Int) ≤ M ∧ (b : Int) * K ≤ M * K ∧ (b : Int) ≤ M ∧ bits .and .u64 ((n : Int) / K) M = (a : Int) ∧ bits .and .u64 (n : Int) M = (b : Int) ∧ bits .or .u64 (a : Int) ((b : Int) * K) = ((rv k m n : Nat) : Int) ∧ rv k m n < 18446744073709551616 := by
  subst hK hM
  have hd : n / 2 ^ k ≤ n := Nat.div_le_self _ _
  have hb : n &&& m ≤ m := Nat.and_le_right
  have hbk : (n &&& m) * 2 ^ k ≤ m * 2 ^ k := Nat.mul_le_mul_right _ hb
  have ha : n / 2 ^ k &&& m ≤ m := Nat.and_le_right
  have hbk' : (((n &&& m : Nat) : Int)) * 2 ^ k ≤ (m : Int) * 2 ^ k := by
    have : (((n &&& m) * 2 ^ k : Nat) : Int) ≤ ((m * 2 ^ k : Nat) : Int) := by omega
    simpa using this
  refine ⟨n / 2 ^ k &&& m, n &&& m, by omega, hbk', by omega, and_u64 _ (n / 2 ^ k) m (by simp) (by omega) hm, and_u64 _ n m rfl hn hm, ?_, rv_lt (by omega) (by omega)⟩
  unfold rv
  exact or_u64 _ _ _ _ rfl (by simp) (by omega) (by omega)
theorem rv_last (n2 : Nat) (h2 : n2 < 18446744073709551616) : bits .or .u64 ((n2 : Int) / 4294967296) (IntKind.u64.wrap ((n2 : Int) * 4294967296)) = ((rv 32 4294967295 n2 : Nat) : Int) := by
  rw [wrap_u64]
  have e : ((n2 : Int) * 4294967296) % 18446744073709551616 = ((n2 &&& 4294967295 : Nat) : Int) * 4294967296 := by
    rw [show (4294967295 : Nat) = 2 ^ 32 - 1 from rfl, Nat.and_two_pow_sub_one_eq_mod]; omega
  rw [e]
  unfold rv
  have e4 : n2 / 2 ^ 32 &&& 4294967295 = n2 / 2 ^ 32 := by
    rw [show (4294967295 : Nat) = 2 ^ 32 - 1 from rfl, Nat.and_two_pow_sub_one_eq_mod]; omega
  rw [e4]
  have hb : n2 &&& 4294967295 ≤ 4294967295 := Nat.and_le_right
  exact or_u64 _ _ _ _ (by omega) (by omega) (by omega) (by omega)
theorem rev64_eq (n : Nat) : rev64 n = rv 32 4294967295 (rv 16 281470681808895 (rv 8 71777214294589695 (rv 4 1085102592571150095 (rv 2 3689348814741910323 (rv 1 6148914691236517205 n))))) := rfl
attribute [irreducible] cnt turned rev64 rv
end Go.Dam

/-
  append onto a row of the call's own, with the word where the row lies afterwards: where it lay, or in a new block; of any number of cells. Conditions: none; nothing here names the program.
-/
namespace Go.Dam
open Go Go.RowKit Go.ChangeShapes Go.WideShapes Go.Joins Go.Deep
set_option linter.unusedVariables false
section
variable {P : Program} {w : World}
/-- The row v' lies where v lay, or in a block that is not below B. -/
def LiesOr (B : Nat) (v v' : Value) : Prop := ∀ g, v'.ownBlock = some g → v.ownBlock = some g ∨ B ≤ g
theorem run_append_lies (t ty e : TypeId) (i : TypeInfo) (z : Value) (size bytes : Nat) (base : Nat) (ht : P.underlying t = some (.slice e)) (hi : P.info? e = some i) (hz : i.zero = some z)
    (hsize : i.size = size) (hby : i.bytes = bytes) (hzs : z.cells.size = size) (hsz : 0 < size)
    (v : Value) (n : Nat) (xs : List Value) (hown : w.ownsRow base e size v n xs)
    (a : Addr) (m c : Nat) (news : List Value) (hl : news.length = m * size) (hnews : ∀ j u, news[j]? = some u → w.cell? (a.add j) = some u) (h1 : ∀ u ∈ news, u.oneCell' = true)
    (h63 : n + m ≤ maxLen) (hbytes : (n + m) * bytes ≤ 140737488355328) (hbase : base ≤ w.heap.size) (v' : Value) (w' : World)
    (hrun : (Builtin.append_ #[t, t] ty #[v, .slice (some a) m c]).run P w = .ok v' w') : LiesOr w.heap.size v v' := by
  rcases hown.2 with ⟨rfl, rfl⟩ | ⟨g, cap, cur, rfl, hbg, hg, hnc, hcm, hcs, htake⟩
  · have hx : xs = [] := List.eq_nil_of_length_eq_zero (by simpa using hown.1)
    subst hx
    obtain ⟨v2, w2, hr, h2, _⟩ := run_append_own (P := P) w w.heap.size t ty e i z size bytes ht hi hz hsize hby hzs hsz (.slice none 0 0) 0 [] (World.ownsRow_nil w w.heap.size e size) a m c news hl hnews h1 h63 hbytes (Nat.le_refl _)
    rw [hrun] at hr
    injection hr with hv hw
    subst hv
    exact fun g hg => .inr (h2.lt g hg).1
  · subst hsize
    have hsmall : n + m ≤ 9223372036854775807 := by simp only [maxLen] at h63; omega
    by_cases hroom : n + m ≤ cap
    · have hfit : n * i.size + news.length ≤ cur.size := by rw [hl, hcs, ← Nat.add_mul]; exact Nat.mul_le_mul_right _ hroom
      have hr := run_append_room (P := P) w t ty e i ht hi g n cap cur hg a m c news hl hnews h1 hroom hfit
      rw [hrun] at hr
      injection hr with hv hw
      subst hv
      exact fun k hk => .inl hk
    · have holds : ∀ j u, xs[j]? = some u → w.cell? ((⟨g, 0, none⟩ : Addr).add j) = some u := hown.cells (g := g) rfl
      have hr := run_append_grow (P := P) w t ty e i z ht hi hz ⟨g, 0, none⟩ n cap xs hown.1 holds a m c news hl hnews (by omega) (by omega) (by subst hby; exact growslice_fits (by omega) hbytes)
      rw [hrun] at hr
      injection hr with hv hw
      subst hv
      refine fun k hk => .inr ?_
      simp only [Value.ownBlock, Option.some.injEq] at hk
      omega
/-- append of m elements, with the word where the row lies. -/
theorem wpList_pushM {T E : TypeId} {z : Value} {size bytes : Nat} (el : El P T E z size bytes) {ops : Array Oper} {rest : List Oper} {o : Oper} {a : Act} {Q : Exit → Act → World → Prop} (hgd : o.guard = none) (s x : Operand)
    (ho : o.op = .call { callee := .builtin .append, args := #[s, x], argTypes := #[T, T] })
    (base : Nat) (v : Value) (n : Nat) (xs : List Value) (hown : w.ownsRow base E size v n xs) (hs : a.eval s = v)
    (ad : Addr) (m c : Nat) (news : List Value) (hx : a.eval x = .slice (some ad) m c) (hl : news.length = m * size) (hnews : ∀ j u, news[j]? = some u → w.cell? (ad.add j) = some u) (h1 : ∀ u ∈ news, u.oneCell' = true)
    (h63 : n + m ≤ 140737488355328) (hbytes : (n + m) * bytes ≤ 140737488355328) (hbase : base ≤ w.heap.size)
    (h : ∀ v' w', w'.ownsRow base E size v' (n + m) (xs ++ news) → w.grownBy w' v.ownBlock → LiesOr w.heap.size v v' → wpList P ops Q rest (a.put o.dst v') w') : wpList P ops Q (o :: rest) a w := by
  obtain ⟨i, hi, hz, hz1, hz2⟩ := el.info
  refine wpList_plain hgd fun K hK => ?_
  obtain ⟨v', w', hr, h2, h3, h4⟩ := run_append_own (P := P) w base T o.type E i z size bytes el.ht hi hz hz1 hz2 el.hz el.hs v n xs hown ad m c news hl hnews h1 (by unfold maxLen; omega) hbytes hbase
  have h5 := run_append_lies (P := P) T o.type E i z size bytes base el.ht hi hz hz1 hz2 el.hz el.hs v n xs hown ad m c news hl hnews h1 (by unfold maxLen; omega) hbytes hbase v' w' hr
  unfold Oper.wp execOp
  simp only [ho, resolve, invoke, builtin, Sem.run_bind, Sem.run_pure, Result.andThen_ok, List.map_toArray, List.map_cons, List.map_nil, hs, hx, hr]
  exact hK _ _ (h v' w' h2 h3 h5)
theorem add_zero_addr (g j : Nat) : (⟨g, 0, none⟩ : Addr).add j = ⟨g, j, none⟩ := by unfold Addr.add; split <;> simp_all
/-- append(s, x), x one element of one cell: it lies in the block g. -/
theorem wpList_pushD {T E : TypeId} {z : Value} {bytes : Nat} (el : El P T E z 1 bytes) {ops : Array Oper} {rest : List Oper} {o : Oper} {a : Act} {Q : Exit → Act → World → Prop} (hgd : o.guard = none) (s x : Operand)
    (ho : o.op = .call { callee := .builtin .append, args := #[s, x], argTypes := #[T, T] })
    (base : Nat) (v : Value) (n : Nat) (xs : List Value) (hown : w.ownsRow base E 1 v n xs) (hs : a.eval s = v)
    (g c : Nat) (u : Value) (hx : a.eval x = .slice (some ⟨g, 0, none⟩) 1 c) (hu : w.cell? ⟨g, 0, none⟩ = some u) (h1 : u.oneCell' = true)
    (h63 : n + 1 ≤ 140737488355328) (hbytes : (n + 1) * bytes ≤ 140737488355328) (hbase : base ≤ w.heap.size)
    (h : ∀ v' w', w'.ownsRow base E 1 v' (n + 1) (xs ++ [u]) → w.grownBy w' v.ownBlock → LiesOr w.heap.size v v' → wpList P ops Q rest (a.put o.dst v') w') : wpList P ops Q (o :: rest) a w := by
  refine wpList_pushM el hgd s x ho base v n xs hown hs ⟨g, 0, none⟩ 1 c [u] hx rfl ?_ ?_ h63 hbytes hbase h
  · intro j y hj
    cases j with
    | zero => simp at hj; subst hj; exact hu
    | succ j => simp at hj
  · intro y hy
    simp at hy; subst hy; exact h1
end
/-- Two rows of the call's own do not lie in one block. -/
def Apart (v u : Value) : Prop := ∀ g, v.ownBlock = some g → u.ownBlock ≠ some g
theorem Apart.symm {v u : Value} (h : Apart v u) : Apart u v := fun g h1 h2 => h g h2 h1
theorem Apart.nil (u : Value) : Apart (.slice none 0 0) u := fun g h => by cases h
theorem Apart.nil' (u : Value) : Apart u (.slice none 0 0) := fun g h h' => by cases h'
/-- A row that was appended to is still apart from another old one. -/
theorem Apart.grow {w : World} {v v' u : Value} {base : Nat} {e : TypeId} {size n : Nat} {xs : List Value} (h : Apart v u) (hl : LiesOr w.heap.size v v') (hu : w.ownsRow base e size u n xs) : Apart v' u := by
  intro g h1 h2
  rcases hl g h1 with h3 | h3
  · exact h g h3 h2
  · have := (hu.lt g h2).2; omega
/-- The other row is kept. -/
theorem Apart.kept {w w' : World} {v u : Value} {base : Nat} {e : TypeId} {size n : Nat} {xs : List Value} (h : Apart v u) (hg : w.grownBy w' v.ownBlock) (hu : w.ownsRow base e size u n xs) : w'.ownsRow base e size u n xs := by
  refine hu.kept hg ?_
  cases hb : u.ownBlock with
  | none => exact .inl rfl
  | some g => exact .inr fun e => h g e.symm hb
end Go.Dam

/-
  How a slice of structs of m ints lies in memory: one flat list of ints, m for each element; and how the argument is opened to it. Conditions: none; nothing here names the program.
-/
namespace Go.Dam
open Go Go.RowKit Go.ChangeShapes Go.WideShapes Go.Joins Go.Deep
set_option linter.unusedVariables false
/-- The slice value reads as n elements of m ints each; l is all of them, one behind the other. -/
def IsFlat (m : Nat) (w : World) (B : Nat) (v : Value) (n : Nat) (l : List Int) : Prop :=
  ∃ A c, v = .slice A n c ∧ n ≤ c ∧ c ≤ maxLen ∧ n ≤ 140737488351232 ∧ l.length = n * m ∧ Reads w B m A n (l.map (Value.int .i64)) ∧ ∀ z ∈ l, (Lit.int .i64 z).wf = true
section
variable {m n : Nat} {w w' : World} {B B' : Nat} {v : Value} {l : List Int} {A : Option Addr}
theorem IsFlat.below (h : IsFlat m w B v n l) (hb : Below B w w') : IsFlat m w' B v n l := by
  obtain ⟨A, c, rfl, h1, h2, h5, h6, h3, h4⟩ := h
  exact ⟨A, c, rfl, h1, h2, h5, h6, h3.below hb, h4⟩
theorem IsFlat.more (h : IsFlat m w B v n l) (hB : B ≤ B') : IsFlat m w B' v n l := by
  obtain ⟨A, c, rfl, h1, h2, h5, h6, h3, h4⟩ := h
  exact ⟨A, c, rfl, h1, h2, h5, h6, h3.more hB, h4⟩
theorem flat_cells (hr : Reads w B m A n (l.map (Value.int .i64))) (hl : l.length = n * m) (hn : 0 < n) (hm : 0 < m) :
    ∃ b off, A = some ⟨b, off, none⟩ ∧ b < B ∧ ∀ j, j < n * m → w.cell? ⟨b, off + j, none⟩ = some (.int .i64 (l.getD j 0)) := by
  obtain ⟨ad, e, hb, hc⟩ := hr.2 hn
  obtain ⟨b, off, sp⟩ := ad
  have key : ∀ j, j < n * m → w.cell? ((⟨b, off, sp⟩ : Addr).add j) = some (.int .i64 (l.getD j 0)) := by
    intro j hj
    refine hc j _ ?_
    have : j < l.length := by omega
    simp [this]
  have h0 := key 0 (Nat.mul_pos hn hm)
  have hsp : sp = none := by simpa [Addr.add] using cell_spot h0
  subst hsp
  refine ⟨b, off, e, hb, fun j hj => ?_⟩
  have hu := key j hj
  unfold Addr.add at hu
  split at hu
  · rename_i h0; subst h0; exact hu
  · exact hu
theorem flat_wf (hw : ∀ z ∈ l, (Lit.int .i64 z).wf = true) (j : Nat) : I64 (l.getD j 0) := by
  rcases Nat.lt_or_ge j l.length with h | h
  · have : l.getD j 0 = l[j] := by simp [h]
    rw [this]
    exact wf_i64 (hw _ (List.getElem_mem h))
  · have : l.getD j 0 = 0 := by simp [h]
    rw [this]; unfold I64; omega
end
section
variable {H : Type} {enc : TypeId × Value → H} {P : Program} {w : World} {base : Nat} {spare : Nat → Bool} {held : Bool}
/-- Whatever slice of structs of m ints can be read as data. -/
theorem open_flat {t e : TypeId} {fs : Array Field} {m fuel : Nat} {cs : List Value} {x : DataW H × List MemPlace} (ht : P.underlying t = some (.slice e)) (he : P.underlying e = some (.struct fs)) (hone : oneCellFields P fs = true)
    (hC : P.cellsOf e = m) (hm : fs.size = m) (hm0 : 0 < m) (hfs : ∀ f ∈ fs.toList, P.underlying f.type = some (.int .i64)) (h : DataW.trod enc P w base spare held fuel t cs = some x) (hz : Sized P t x.1) :
    ∃ A n c, ∃ l : List Int, cs = [.slice A n c] ∧ n ≤ c ∧ c ≤ maxLen ∧ n * P.bytesOf e ≤ reachBytes ∧ l.length = n * m ∧ Reads w w.heap.size m A n (l.map (Value.int .i64)) ∧ ∀ z ∈ l, (Lit.int .i64 z).wf = true := by
  obtain ⟨A, n, c, vs, rfl, hc, hcm, hby, hr, hi⟩ := open_reads ht hC hm0 h hz
  have hl : vs.length = n * m := hr.1
  have key : ∀ j, j < n * m → ∃ z, vs[j]? = some (.int .i64 z) ∧ (Lit.int .i64 z).wf = true := by
    intro j hj
    have hq : j / m < n := by rw [Nat.div_lt_iff_lt_mul hm0]; exact hj
    have hrm : j % m < m := Nat.mod_lt _ hm0
    obtain ⟨f, y, hy, _⟩ := hi (j / m) hq
    obtain ⟨ys, n', _, _, hlen, hyl, hf⟩ := DataW.trod_struct he hy
    have hfj : fs[j % m]? = some (fs[j % m]'(by omega)) := Array.getElem?_eq_getElem (by omega)
    obtain ⟨ho, hk⟩ := hone_of hone (j % m) _ hfj
    have h1 := hf (j % m) _ hfj
    rw [ho, hk] at h1
    have hys : ys[j % m]? = some (ys[j % m]'(by omega)) := List.getElem?_eq_getElem (by omega)
    rw [hys] at h1
    obtain ⟨z, hz1, _, hw1⟩ := DataW.trod_int (hfs _ (by simp)) h1
    refine ⟨z, ?_, hw1⟩
    have h2 : ((((vs.drop (j / m * m)).take m).drop (j % m)).take 1)[0]? = some (.int .i64 z) := by rw [hz1]; rfl
    rw [List.getElem?_take, if_pos (by omega), List.getElem?_drop, List.getElem?_take, if_pos (by omega), List.getElem?_drop] at h2
    rw [← h2]
    congr 1
    have := Nat.div_add_mod j m
    rw [Nat.mul_comm] at this
    omega
  refine ⟨A, n, c, vs.map intOf, rfl, hc, hcm, hby, by simpa using hl, ?_, ?_⟩
  · have : (vs.map intOf).map (Value.int .i64) = vs := by
      apply List.ext_getElem?
      intro j
      rcases Nat.lt_or_ge j (n * m) with hj | hj
      · obtain ⟨z, hz, _⟩ := key j hj
        simp [hz, intOf]
      · rw [List.getElem?_eq_none (by simp; omega), List.getElem?_eq_none (by omega)]
    rw [this]; exact hr
  · intro z hz
    obtain ⟨j, hj, rfl⟩ := List.mem_iff_getElem.1 hz
    have hj' : j < vs.length := by simpa using hj
    obtain ⟨z, hz, hw⟩ := key j (by omega)
    rw [List.getElem?_eq_getElem hj'] at hz
    have : vs[j] = .int .i64 z := by injection hz
    simpa [this, intOf] using hw
theorem arg_flat {r : Reach} {b0 : Nat} {t e : TypeId} {v : Value} {d : DataW H} {ps : List MemPlace} {fs : Array Field} {m : Nat} (ht : P.underlying t = some (.slice e)) (he : P.underlying e = some (.struct fs)) (hone : oneCellFields P fs = true)
    (hC : P.cellsOf e = m) (hm : fs.size = m) (hm0 : 0 < m) (hfs : ∀ f ∈ fs.toList, P.underlying f.type = some (.int .i64)) (hby : 1 ≤ P.bytesOf e)
    (hv : Value.okWide P w r b0 t v) (h : DataW.Trod enc P w base spare held t v d ps) (hz : Sized P t d) : ∃ n l, IsFlat m w w.heap.size v n l := by
  obtain ⟨a, len, cap, rfl⟩ := okWide_slice ht hv
  obtain ⟨fuel, hf⟩ := h
  obtain ⟨A, n, c, l, hcs, hc, hcm, hb, hl, hr, hw⟩ := open_flat ht he hone hC hm hm0 hfs hf hz
  simp only [Value.cells, List.cons.injEq, and_true] at hcs
  have : n * 1 ≤ n * P.bytesOf e := Nat.mul_le_mul_left _ hby
  have hr2 : reachBytes = 140737488351232 := rfl
  exact ⟨n, l, A, c, hcs, hc, hcm, by omega, hl, hr, hw⟩
end
/-- Elements of lists of ints by their first coordinates. -/
def coordOk (z : Int) : Bool := decide (-1048576 ≤ z ∧ z ≤ 1048576)
theorem coordOk_yes {z : Int} (h : coordOk z = true) : -1048576 ≤ z ∧ z ≤ 1048576 := by simpa [coordOk] using h
theorem coordOk_no {z : Int} (h : coordOk z = false) : z < -1048576 ∨ 1048576 < z := by
  rw [coordOk, decide_eq_false_iff_not] at h; omega
/-- Has a number below n the mark? -/
def anyN (p : Nat → Bool) (n : Nat) : Bool := (List.range n).any p
theorem anyN_yes {p : Nat → Bool} {n i : Nat} (hi : i < n) (h : p i = true) : anyN p n = true := by
  unfold anyN; rw [List.any_eq_true]; exact ⟨i, List.mem_range.2 hi, h⟩
theorem anyN_no {p : Nat → Bool} {n : Nat} (h : ∀ i, i < n → p i = false) : anyN p n = false := by
  unfold anyN; rw [List.any_eq_false]; intro i hi; rw [h i (List.mem_range.1 hi)]; simp
theorem anyN_false {p : Nat → Bool} {n : Nat} (h : anyN p n = false) : ∀ i, i < n → p i = false := by
  unfold anyN at h; rw [List.any_eq_false] at h
  intro i hi
  have := h i (List.mem_range.2 hi)
  simpa using this
theorem anyN_true {p : Nat → Bool} {n : Nat} (h : anyN p n = true) : ∃ i, i < n ∧ p i = true := by
  unfold anyN at h; rw [List.any_eq_true] at h
  obtain ⟨i, hi, hp⟩ := h
  exact ⟨i, List.mem_range.1 hi, hp⟩
attribute [irreducible] anyN coordOk
/-- The first number below n with the mark, or -1. -/
def FirstR (p : Nat → Bool) (n : Nat) (k : Int) : Prop := (k = -1 ∧ ∀ i, i < n → p i = false) ∨ ∃ i : Nat, i < n ∧ k = i ∧ p i = true ∧ ∀ j, j < i → p j = false
theorem FirstR.any {p : Nat → Bool} {n : Nat} {k : Int} (h : FirstR p n k) : decide (k ≥ 0) = anyN p n := by
  rcases h with ⟨rfl, h⟩ | ⟨i, hi, rfl, hp, _⟩
  · rw [anyN_no h]; rfl
  · rw [anyN_yes hi hp]; simp
theorem FirstR.bd {p : Nat → Bool} {n : Nat} {k : Int} (h : FirstR p n k) : -1 ≤ k ∧ k < n := by
  rcases h with ⟨rfl, h⟩ | ⟨i, hi, rfl, hp, _⟩ <;> omega
theorem FirstR.ex (p : Nat → Bool) : ∀ n, ∃ k, FirstR p n k
  | 0 => ⟨-1, .inl ⟨rfl, fun i hi => absurd hi (by omega)⟩⟩
  | n + 1 => by
    obtain ⟨k, hk⟩ := FirstR.ex p n
    rcases hk with ⟨rfl, h⟩ | ⟨i, hi, rfl, hp, hj⟩
    · cases hn : p n
      · exact ⟨-1, .inl ⟨rfl, fun i hi => by rcases Nat.lt_or_ge i n with h1 | h1; exact h i h1; rw [show i = n from by omega]; exact hn⟩⟩
      · exact ⟨n, .inr ⟨n, by omega, rfl, hn, h⟩⟩
    · exact ⟨i, .inr ⟨i, by omega, rfl, hp, hj⟩⟩
theorem FirstR.is {p : Nat → Bool} {n i : Nat} {k : Int} (h : FirstR p n k) (hi : i < n) (hp : p i = true) (hno : ∀ j, j < i → p j = false) : k = i := by
  rcases h with ⟨rfl, h⟩ | ⟨i', hi', rfl, hp', hno'⟩
  · rw [h i hi] at hp; cases hp
  · rcases Nat.lt_trichotomy i i' with h | h | h
    · rw [hno' i h] at hp; cases hp
    · rw [h]
    · rw [hno i' h] at hp'; cases hp'
theorem FirstR.none_ {p : Nat → Bool} {n : Nat} {k : Int} (h : FirstR p n k) (hno : ∀ j, j < n → p j = false) : k = -1 := by
  rcases h with ⟨rfl, h⟩ | ⟨i', hi', rfl, hp', hno'⟩
  · rfl
  · rw [hno i' hi'] at hp'; cases hp'
theorem no_step {p : Nat → Bool} {i : Nat} (h : ∀ j, j < i → p j = false) (hi : p i = false) : ∀ j, j < i + 1 → p j = false := by
  intro j hj
  rcases Nat.lt_or_ge j i with h1 | h1
  · exact h j h1
  · rw [show j = i from by omega]; exact hi
theorem not3_cases {x y z b : Bool} (h : (!(x && (y && z))) = b) : (b = true ∧ x = false) ∨ (b = true ∧ x = true ∧ y = false) ∨ (b = true ∧ x = true ∧ y = true ∧ z = false) ∨ (b = false ∧ x = true ∧ y = true ∧ z = true) := by
  subst h; cases x <;> cases y <;> cases z <;> simp
end Go.Dam

/-
  The plain law of layers: what the sweep by the greatest Y of each layer finds, and what the reference finds, are the same layers. Conditions: none; nothing here names the program; no import.
-/
namespace Go.Dam.Sky
/-- A row of numbers with one place set. -/
def upd (f : Nat → Int) (i : Nat) (x : Int) : Nat → Int := fun k => if k = i then x else f k
theorem upd_same (f : Nat → Int) (i : Nat) (x : Int) : upd f i x i = x := by unfold upd; rw [if_pos rfl]
theorem upd_ne {f : Nat → Int} {i k : Nat} {x : Int} (h : k ≠ i) : upd f i x k = f k := by unfold upd; rw [if_neg h]
section
variable (X Y : Nat → Int)
/-- Point k is above point i. -/
def above (k i : Nat) : Bool := (decide (X k > X i) && decide (Y k ≥ Y i)) || (decide (X k ≥ X i) && decide (Y k > Y i))
theorem above_iff (k i : Nat) : above X Y k i = true ↔ (X k > X i ∧ Y k ≥ Y i) ∨ (X k ≥ X i ∧ Y k > Y i) := by unfold above; simp
/-- What the layers are. -/
def IsLayer (n : Nat) (L : Nat → Int) : Prop := ∀ i, i < n → 0 ≤ L i ∧ (∀ k, k < n → above X Y k i = true → L k < L i) ∧ (L i = 0 ∨ ∃ k, k < n ∧ above X Y k i = true ∧ L i = L k + 1)
theorem IsLayer.le {n : Nat} {L M : Nat → Int} (h : IsLayer X Y n L) (g : IsLayer X Y n M) : ∀ (m : Nat) (i : Nat), i < n → L i ≤ m → L i ≤ M i
  | 0, i, hi, hl => by have := (g i hi).1; omega
  | m + 1, i, hi, hl => by
    obtain ⟨h1, h2, h3⟩ := h i hi
    rcases h3 with h3 | ⟨k, hk, ha, h3⟩
    · have := (g i hi).1; omega
    · have := IsLayer.le h g m k hk (by omega)
      have := (g i hi).2.1 k hk ha
      omega
theorem IsLayer.uniq {n : Nat} {L M : Nat → Int} (h : IsLayer X Y n L) (g : IsLayer X Y n M) {i : Nat} (hi : i < n) : L i = M i := by
  have a := IsLayer.le X Y h g (L i).toNat i hi (by have := (h i hi).1; omega)
  have b := IsLayer.le X Y g h (M i).toNat i hi (by have := (g i hi).1; omega)
  omega
/-- The reference, in its order o: point t against the first s of all. -/
def inR (o : List Nat) (i : Nat) : Nat → (Nat → Int) → (Nat → Int)
  | 0, f => f
  | s + 1, f => if above X Y (o.getD s 0) i = true ∧ inR o i s f (o.getD s 0) + 1 > inR o i s f i then upd (inR o i s f) i (inR o i s f (o.getD s 0) + 1) else inR o i s f
theorem inR_0 (o : List Nat) (i : Nat) (f : Nat → Int) : inR X Y o i 0 f = f := rfl
theorem inR_yes {o : List Nat} {i s : Nat} {f : Nat → Int} (h : above X Y (o.getD s 0) i = true ∧ inR X Y o i s f (o.getD s 0) + 1 > inR X Y o i s f i) : inR X Y o i (s + 1) f = upd (inR X Y o i s f) i (inR X Y o i s f (o.getD s 0) + 1) := by rw [inR, if_pos h]
theorem inR_no {o : List Nat} {i s : Nat} {f : Nat → Int} (h : ¬ (above X Y (o.getD s 0) i = true ∧ inR X Y o i s f (o.getD s 0) + 1 > inR X Y o i s f i)) : inR X Y o i (s + 1) f = inR X Y o i s f := by rw [inR, if_neg h]
def outR (o : List Nat) (n : Nat) : Nat → (Nat → Int)
  | 0 => fun _ => 0
  | t + 1 => inR X Y o (o.getD t 0) n (outR o n t)
theorem outR_0 (o : List Nat) (n : Nat) : outR X Y o n 0 = fun _ => 0 := rfl
theorem outR_s (o : List Nat) (n t : Nat) : outR X Y o n (t + 1) = inR X Y o (o.getD t 0) n (outR X Y o n t) := rfl
theorem inR_other {o : List Nat} {i k : Nat} {f : Nat → Int} (h : k ≠ i) : ∀ s, inR X Y o i s f k = f k
  | 0 => rfl
  | s + 1 => by
    by_cases c : above X Y (o.getD s 0) i = true ∧ inR X Y o i s f (o.getD s 0) + 1 > inR X Y o i s f i
    · rw [inR_yes X Y c, upd_ne h, inR_other h s]
    · rw [inR_no X Y c, inR_other h s]
theorem above_ne {k i : Nat} (h : above X Y k i = true) : k ≠ i := fun e => by subst e; rw [above_iff] at h; omega
theorem inR_own {o : List Nat} {i : Nat} {f : Nat → Int} (h0 : f i = 0) : ∀ s, 0 ≤ inR X Y o i s f i ∧ (∀ u, u < s → above X Y (o.getD u 0) i = true → f (o.getD u 0) < inR X Y o i s f i) ∧ (inR X Y o i s f i = 0 ∨ ∃ u, u < s ∧ above X Y (o.getD u 0) i = true ∧ inR X Y o i s f i = f (o.getD u 0) + 1)
  | 0 => ⟨by rw [inR_0, h0]; omega, fun u hu => absurd hu (by omega), .inl (by rw [inR_0, h0])⟩
  | s + 1 => by
    obtain ⟨a, b, c⟩ := inR_own (o := o) h0 s
    by_cases hc : above X Y (o.getD s 0) i = true ∧ inR X Y o i s f (o.getD s 0) + 1 > inR X Y o i s f i
    · have e := inR_other X Y (o := o) (f := f) (above_ne X Y hc.1) s
      rw [inR_yes X Y hc, upd_same, e]
      have h1 := hc.2
      rw [e] at h1
      refine ⟨by omega, fun u hu ha => ?_, .inr ⟨s, by omega, hc.1, rfl⟩⟩
      rcases Nat.lt_or_ge u s with h2 | h2
      · have := b u h2 ha; omega
      · rw [show u = s by omega]; omega
    · rw [inR_no X Y hc]
      refine ⟨a, fun u hu ha => ?_, ?_⟩
      · rcases Nat.lt_or_ge u s with h2 | h2
        · exact b u h2 ha
        · rw [show u = s by omega] at ha ⊢
          have e := inR_other X Y (o := o) (f := f) (above_ne X Y ha) s
          have : ¬ inR X Y o i s f (o.getD s 0) + 1 > inR X Y o i s f i := fun h => hc ⟨ha, h⟩
          rw [e] at this
          omega
      · rcases c with c | ⟨u, hu, ha, e⟩
        · exact .inl c
        · exact .inr ⟨u, by omega, ha, e⟩
/-- The reference's order: all places, from above. -/
def OrdDown (n : Nat) (o : List Nat) : Prop := o.Perm (List.range n) ∧ ∀ u v, u < v → v < n → X (o.getD v 0) < X (o.getD u 0) ∨ (X (o.getD v 0) = X (o.getD u 0) ∧ Y (o.getD v 0) ≤ Y (o.getD u 0))
theorem perm_lt {n : Nat} {o : List Nat} (h : o.Perm (List.range n)) {u : Nat} (hu : u < n) : o.getD u 0 < n := by
  have hl : o.length = n := by have := h.length_eq; simpa using this
  rw [List.getD_eq_getElem?_getD, List.getElem?_eq_getElem (by omega)]
  exact List.mem_range.1 (h.mem_iff.1 (List.getElem_mem (by omega)))
theorem perm_ex {n : Nat} {o : List Nat} (h : o.Perm (List.range n)) {i : Nat} (hi : i < n) : ∃ u, u < n ∧ o.getD u 0 = i := by
  have hl : o.length = n := by have := h.length_eq; simpa using this
  obtain ⟨u, hu, e⟩ := List.mem_iff_getElem.1 (h.mem_iff.2 (List.mem_range.2 hi))
  exact ⟨u, by omega, by rw [List.getD_eq_getElem?_getD, List.getElem?_eq_getElem hu]; exact e⟩
theorem perm_inj {n : Nat} {o : List Nat} (h : o.Perm (List.range n)) {u v : Nat} (hu : u < n) (hv : v < n) (e : o.getD u 0 = o.getD v 0) : u = v := by
  have hl : o.length = n := by have := h.length_eq; simpa using this
  have hn : o.Nodup := h.nodup_iff.2 List.nodup_range
  rw [List.getD_eq_getElem?_getD, List.getElem?_eq_getElem (by omega), List.getD_eq_getElem?_getD, List.getElem?_eq_getElem (by omega)] at e
  exact (List.getElem_inj hn).1 e
theorem outR_inv {n : Nat} {o : List Nat} (h : OrdDown X Y n o) : ∀ t, t ≤ n → (∀ u, t ≤ u → u < n → outR X Y o n t (o.getD u 0) = 0) ∧
    ∀ u, u < t → 0 ≤ outR X Y o n t (o.getD u 0) ∧ (∀ k, k < n → above X Y k (o.getD u 0) = true → outR X Y o n t k < outR X Y o n t (o.getD u 0)) ∧ (outR X Y o n t (o.getD u 0) = 0 ∨ ∃ k, k < n ∧ above X Y k (o.getD u 0) = true ∧ outR X Y o n t (o.getD u 0) = outR X Y o n t k + 1)
  | 0, _ => ⟨fun _ _ _ => rfl, fun u hu => absurd hu (by omega)⟩
  | t + 1, ht => by
    obtain ⟨h1, h2⟩ := outR_inv h t (by omega)
    rw [outR_s]
    have hne : ∀ u, u < n → u ≠ t → o.getD u 0 ≠ o.getD t 0 := fun u hu hut e => hut (perm_inj h.1 hu (by omega) e)
    -- what is above a point comes ahead of it
    have hah : ∀ u v, u < n → v < n → above X Y (o.getD u 0) (o.getD v 0) = true → u < v := fun u v hu hv ha => by
      rw [above_iff] at ha
      rcases Nat.lt_trichotomy u v with g | g | g
      · exact g
      · subst g; omega
      · have := h.2 v u g hu; omega
    have own := inR_own X Y (o := o) (i := o.getD t 0) (f := outR X Y o n t) (h1 t (Nat.le_refl _) (by omega)) n
    have oth : ∀ u, u < n → u ≠ t → inR X Y o (o.getD t 0) n (outR X Y o n t) (o.getD u 0) = outR X Y o n t (o.getD u 0) := fun u hu hut => inR_other X Y (hne u hu hut) n
    refine ⟨fun u hu1 hu2 => by rw [oth u hu2 (by omega)]; exact h1 u (by omega) hu2, fun u hu => ?_⟩
    rcases Nat.lt_or_ge u t with g | g
    · obtain ⟨a, b, c⟩ := h2 u g
      rw [oth u (by omega) (by omega)]
      refine ⟨a, fun k hk ha => ?_, ?_⟩
      · obtain ⟨v, hv, rfl⟩ := perm_ex h.1 hk
        have := hah v u hv (by omega) ha
        rw [oth v hv (by omega)]
        exact b _ hk ha
      · rcases c with c | ⟨k, hk, ha, e⟩
        · exact .inl c
        · obtain ⟨v, hv, rfl⟩ := perm_ex h.1 hk
          have := hah v u hv (by omega) ha
          exact .inr ⟨_, hk, ha, by rw [oth v hv (by omega)]; exact e⟩
    · obtain rfl : u = t := by omega
      obtain ⟨a, b, c⟩ := own
      refine ⟨a, fun k hk ha => ?_, ?_⟩
      · obtain ⟨v, hv, rfl⟩ := perm_ex h.1 hk
        have := hah v u hv (by omega) ha
        rw [oth v hv (by omega)]
        exact b v hv ha
      · rcases c with c | ⟨v, hv, ha, e⟩
        · exact .inl c
        · have := hah v u hv (by omega) ha
          exact .inr ⟨_, perm_lt h.1 hv, ha, by rw [oth v hv (by omega)]; exact e⟩
theorem outR_layer {n : Nat} {o : List Nat} (h : OrdDown X Y n o) : IsLayer X Y n (outR X Y o n n) := fun i hi => by
  obtain ⟨u, hu, rfl⟩ := perm_ex h.1 hi
  exact (outR_inv X Y h n (Nat.le_refl _)).2 u hu
/-- The program's order: all places, upwards. -/
def OrdUp (n : Nat) (o : List Nat) : Prop := o.Perm (List.range n) ∧ ∀ u v, u < v → v < n → X (o.getD u 0) < X (o.getD v 0) ∨ (X (o.getD u 0) = X (o.getD v 0) ∧ Y (o.getD u 0) ≤ Y (o.getD v 0))
/-- What is known behind the points from place k of the order on. -/
structure LayInv (n : Nat) (o : List Nat) (k : Nat) (L : Nat → Int) (T : List Int) : Prop where
  lay : ∀ u, k ≤ u → u < n → 0 ≤ L (o.getD u 0) ∧ (∀ q, q < n → above X Y q (o.getD u 0) = true → L q < L (o.getD u 0)) ∧ (L (o.getD u 0) = 0 ∨ ∃ q, q < n ∧ above X Y q (o.getD u 0) = true ∧ L (o.getD u 0) = L q + 1)
  top : ∀ u, k ≤ u → u < n → L (o.getD u 0) < (T.length : Int) ∧ Y (o.getD u 0) ≤ T.getD (L (o.getD u 0)).toNat 0
  met : ∀ m, m < T.length → ∃ u, k ≤ u ∧ u < n ∧ L (o.getD u 0) = m ∧ Y (o.getD u 0) = T.getD m 0
  down : ∀ m, m + 1 < T.length → T.getD (m + 1) 0 ≤ T.getD m 0
theorem LayInv.start (n : Nat) (o : List Nat) (L : Nat → Int) : LayInv X Y n o n L [] :=
  ⟨fun u h1 h2 => absurd h2 (by omega), fun u h1 h2 => absurd h2 (by omega), fun m h => absurd h (by simp), fun m h => absurd h (by simp)⟩
theorem down_le {T : List Int} (h : ∀ m, m + 1 < T.length → T.getD (m + 1) 0 ≤ T.getD m 0) {a : Nat} : ∀ {b : Nat}, a ≤ b → b < T.length → T.getD b 0 ≤ T.getD a 0
  | 0, h1, _ => by obtain rfl : a = 0 := by omega
                   omega
  | b + 1, h1, h2 => by
    by_cases e : a = b + 1
    · subst e; omega
    · have := down_le h (a := a) (b := b) (by omega) (by omega)
      have := h b h2
      omega
theorem LayInv.done {n : Nat} {o : List Nat} {L : Nat → Int} {T : List Int} (h : LayInv X Y n o 0 L T) (ho : o.Perm (List.range n)) : IsLayer X Y n L := fun i hi => by
  obtain ⟨u, hu, rfl⟩ := perm_ex ho hi
  exact h.lay u (Nat.zero_le _) hu
/-- A place that was not written yet is written. -/
theorem LayInv.old {n : Nat} {o : List Nat} {k : Nat} {L : Nat → Int} {T : List Int} (h : LayInv X Y n o (k + 1) L T) (ho : OrdUp X Y n o) (hk : k < n) (x : Int) : ∀ u, k + 1 ≤ u → u < n → upd L (o.getD k 0) x (o.getD u 0) = L (o.getD u 0) := fun u h1 h2 => upd_ne fun e => by have := perm_inj ho.1 h2 hk e; omega
theorem above_later {n : Nat} {o : List Nat} (ho : OrdUp X Y n o) {q u : Nat} (hq : q < n) (hu : u < n) (ha : above X Y (o.getD q 0) (o.getD u 0) = true) : u < q := by
  rw [above_iff] at ha
  rcases Nat.lt_trichotomy u q with g | g | g
  · exact g
  · subst g; omega
  · have := ho.2 q u g hu; omega
/-- The points kept as they were, when point k's layer is written. -/
theorem LayInv.lay_old {n : Nat} {o : List Nat} {k : Nat} {L : Nat → Int} {T : List Int} (h : LayInv X Y n o (k + 1) L T) (ho : OrdUp X Y n o) (hk : k < n) (x : Int) {u : Nat} (h1 : k + 1 ≤ u) (h2 : u < n) :
    0 ≤ upd L (o.getD k 0) x (o.getD u 0) ∧ (∀ q, q < n → above X Y q (o.getD u 0) = true → upd L (o.getD k 0) x q < upd L (o.getD k 0) x (o.getD u 0)) ∧ (upd L (o.getD k 0) x (o.getD u 0) = 0 ∨ ∃ q, q < n ∧ above X Y q (o.getD u 0) = true ∧ upd L (o.getD k 0) x (o.getD u 0) = upd L (o.getD k 0) x q + 1) := by
  obtain ⟨a, b, c⟩ := h.lay u h1 h2
  have old := LayInv.old X Y h ho hk x
  rw [old u h1 h2]
  refine ⟨a, fun q hq ha => ?_, ?_⟩
  · obtain ⟨v, hv, rfl⟩ := perm_ex ho.1 hq
    have := above_later X Y ho hv h2 ha
    rw [old v (by omega) hv]
    exact b _ hq ha
  · rcases c with c | ⟨q, hq, ha, e⟩
    · exact .inl c
    · obtain ⟨v, hv, rfl⟩ := perm_ex ho.1 hq
      have := above_later X Y ho hv h2 ha
      exact .inr ⟨_, hq, ha, by rw [old v (by omega) hv]; exact e⟩
/-- The same point once more: the layer of the one met ahead. -/
theorem LayInv.same {n : Nat} {o : List Nat} {k : Nat} {L : Nat → Int} {T : List Int} (h : LayInv X Y n o (k + 1) L T) (ho : OrdUp X Y n o) (hk : k + 1 < n) (ex : X (o.getD (k + 1) 0) = X (o.getD k 0)) (ey : Y (o.getD (k + 1) 0) = Y (o.getD k 0)) : LayInv X Y n o k (upd L (o.getD k 0) (L (o.getD (k + 1) 0))) T := by
  have old := LayInv.old X Y h ho (by omega) (L (o.getD (k + 1) 0))
  have hab : ∀ q, above X Y q (o.getD k 0) = above X Y q (o.getD (k + 1) 0) := fun q => by unfold above; rw [ex, ey]
  refine ⟨fun u h1 h2 => ?_, fun u h1 h2 => ?_, fun m hm => ?_, h.down⟩
  · rcases Nat.lt_or_ge k u with g | g
    · exact LayInv.lay_old X Y h ho (by omega) _ g h2
    · obtain rfl : u = k := by omega
      obtain ⟨a, b, c⟩ := h.lay (u + 1) (Nat.le_refl _) hk
      rw [upd_same]
      refine ⟨a, fun q hq ha => ?_, ?_⟩
      · obtain ⟨v, hv, rfl⟩ := perm_ex ho.1 hq
        have := above_later X Y ho hv h2 ha
        rw [old v (by omega) hv]
        exact b _ hq (by rw [← hab]; exact ha)
      · rcases c with c | ⟨q, hq, ha, e⟩
        · exact .inl c
        · obtain ⟨v, hv, rfl⟩ := perm_ex ho.1 hq
          rw [← hab] at ha
          have := above_later X Y ho hv h2 ha
          exact .inr ⟨_, hq, ha, by rw [old v (by omega) hv]; exact e⟩
  · rcases Nat.lt_or_ge k u with g | g
    · rw [old u g h2]; exact h.top u g h2
    · obtain rfl : u = k := by omega
      rw [upd_same, ← ey]
      exact h.top (u + 1) (Nat.le_refl _) hk
  · obtain ⟨u, h1, h2, e1, e2⟩ := h.met m hm
    exact ⟨u, by omega, h2, by rw [old u h1 h2]; exact e1, e2⟩
/-- A new point: the first layer whose greatest Y is less. -/
theorem LayInv.fresh {n : Nat} {o : List Nat} {k : Nat} {L : Nat → Int} {T T' : List Int} {m : Nat} (h : LayInv X Y n o (k + 1) L T) (ho : OrdUp X Y n o) (hk : k < n) (hne : k + 1 < n → ¬ (X (o.getD (k + 1) 0) = X (o.getD k 0) ∧ Y (o.getD (k + 1) 0) = Y (o.getD k 0)))
    (hm : m ≤ T.length) (hge : ∀ j, j < m → Y (o.getD k 0) ≤ T.getD j 0) (hlt : m < T.length → T.getD m 0 < Y (o.getD k 0))
    (hl : T'.length = if m = T.length then T.length + 1 else T.length) (hT : ∀ j, j < T'.length → T'.getD j 0 = if j = m then Y (o.getD k 0) else T.getD j 0) : LayInv X Y n o k (upd L (o.getD k 0) (m : Int)) T' := by
  have old := LayInv.old X Y h ho hk (m : Int)
  have hml : m < T'.length := by rw [hl]; split <;> omega
  have hTl : T.length ≤ T'.length := by rw [hl]; split <;> omega
  -- all met points stand later in the order
  have lex : ∀ u, k + 1 ≤ u → u < n → X (o.getD k 0) < X (o.getD u 0) ∨ (X (o.getD k 0) = X (o.getD u 0) ∧ Y (o.getD k 0) < Y (o.getD u 0)) := fun u h1 h2 => by
    have a := ho.2 k (k + 1) (by omega) (by omega)
    have b := hne (by omega)
    rcases Nat.lt_or_ge (k + 1) u with g | g
    · have := ho.2 (k + 1) u g h2; omega
    · rw [show u = k + 1 by omega]; omega
  have hab : ∀ u, k + 1 ≤ u → u < n → (above X Y (o.getD u 0) (o.getD k 0) = true ↔ Y (o.getD k 0) ≤ Y (o.getD u 0)) := fun u h1 h2 => by
    rw [above_iff]
    have := lex u h1 h2
    constructor <;> intro <;> omega
  refine ⟨fun u h1 h2 => ?_, fun u h1 h2 => ?_, fun j hj => ?_, fun j hj => ?_⟩
  · rcases Nat.lt_or_ge k u with g | g
    · exact LayInv.lay_old X Y h ho hk _ g h2
    · obtain rfl : u = k := by omega
      rw [upd_same]
      refine ⟨by omega, fun q hq ha => ?_, ?_⟩
      · obtain ⟨v, hv, rfl⟩ := perm_ex ho.1 hq
        have hv2 := above_later X Y ho hv h2 ha
        rw [old v (by omega) hv]
        have hy := (hab v (by omega) hv).1 ha
        obtain ⟨t1, t2⟩ := h.top v (by omega) hv
        have l0 := (h.lay v (by omega) hv).1
        rcases Nat.lt_or_ge (L (o.getD v 0)).toNat m with g2 | g2
        · omega
        · exfalso
          have h3 := down_le h.down g2 (by omega)
          have h4 := hlt (by omega)
          omega
      · rcases Nat.eq_zero_or_pos m with g2 | g2
        · exact .inl (by omega)
        · obtain ⟨v, v1, v2, v3, v4⟩ := h.met (m - 1) (by omega)
          have h3 := hge (m - 1) (by omega)
          exact .inr ⟨o.getD v 0, perm_lt ho.1 v2, (hab v v1 v2).2 (by omega), by rw [old v v1 v2]; omega⟩
  · rcases Nat.lt_or_ge k u with g | g
    · obtain ⟨t1, t2⟩ := h.top u g h2
      have l0 := (h.lay u g h2).1
      rw [old u g h2, hT _ (by omega)]
      refine ⟨by omega, ?_⟩
      split
      · rename_i e
        have h4 := hlt (by omega)
        rw [e] at t2
        omega
      · exact t2
    · obtain rfl : u = k := by omega
      rw [upd_same, Int.toNat_natCast, hT m hml, if_pos rfl]
      exact ⟨by omega, Int.le_refl _⟩
  · by_cases e : j = m
    · subst e
      exact ⟨k, Nat.le_refl _, hk, upd_same _ _ _, by rw [hT j hj, if_pos rfl]⟩
    · have hjT : j < T.length := by rw [hl] at hj; split at hj <;> omega
      obtain ⟨u, h1, h2, e1, e2⟩ := h.met j hjT
      exact ⟨u, by omega, h2, by rw [old u h1 h2]; exact e1, by rw [hT j hj, if_neg e]; exact e2⟩
  · rw [hT _ hj, hT j (by omega)]
    by_cases e1 : j + 1 = m
    · rw [if_pos e1, if_neg (by omega)]
      exact hge j (by omega)
    · rw [if_neg e1]
      have hjT : j + 1 < T.length := by rw [hl] at hj; split at hj <;> omega
      have hd := h.down j hjT
      by_cases e2 : j = m
      · rw [if_pos e2]
        have := hlt (by omega)
        rw [e2] at hd
        rw [e2]
        omega
      · rw [if_neg e2]; exact hd
end
end Go.Dam.Sky

/-
  Plain maps of places, no program in sight: what exchanging two ranges, turning a range, and moving one element do. Conditions: bounds on the places.
-/
namespace Go.Dam.Stable
set_option linter.unusedVariables false
/-- Two places exchanged. -/
def swI (i j k : Nat) : Nat := if k = i then j else if k = j then i else k
/-- Two ranges of n places exchanged. -/
def srI (a b n k : Nat) : Nat := if a ≤ k ∧ k < a + n then k - a + b else if b ≤ k ∧ k < b + n then k - b + a else k
/-- The part from m on put ahead of the part from a on. -/
def rotI (a m b k : Nat) : Nat := if a ≤ k ∧ k < b then (if k < a + (b - m) then k - a + m else k - (b - m)) else k
theorem srI_0 (a b k : Nat) : srI a b 0 k = k := by
  unfold srI
  repeat' split
  all_goals omega
theorem srI_step {a b n : Nat} (h : a + (n + 1) ≤ b) (k : Nat) : srI a b (n + 1) k = srI a b n (swI (a + n) (b + n) k) := by
  unfold srI swI
  repeat' split
  all_goals omega
theorem rot_gt {m i j : Nat} (hi : i ≤ m) (h : j < i) (hj : 0 < j) (k : Nat) : rotI (m - i) m (m + j) k = srI (m - i) m j (rotI (m - (i - j)) m (m + j) k) := by
  unfold rotI srI
  repeat' split
  all_goals omega
theorem rot_lt {m i j : Nat} (hi : i ≤ m) (h : i < j) (h0 : 0 < i) (k : Nat) : rotI (m - i) m (m + j) k = srI (m - i) (m + j - i) i (rotI (m - i) m (m + (j - i)) k) := by
  unfold rotI srI
  repeat' split
  all_goals omega
theorem rot_eq {m i : Nat} (hi : i ≤ m) (k : Nat) : rotI (m - i) m (m + i) k = srI (m - i) m i k := by
  unfold rotI srI
  repeat' split
  all_goals omega
theorem rot_none {a b : Nat} (k : Nat) : rotI a a b k = k ∨ a ≤ k ∧ k < b := by
  unfold rotI
  repeat' split
  all_goals omega
theorem rot_up_0 (a k : Nat) : rotI a (a + 1) (a + 1) k = k := by
  unfold rotI
  repeat' split
  all_goals omega
theorem rot_up {a t : Nat} (h : a < t) (k : Nat) : rotI a (a + 1) (t + 1) k = rotI a (a + 1) t (swI (t - 1) t k) := by
  unfold rotI swI
  repeat' split
  all_goals omega
theorem rot_down_0 (m k : Nat) : rotI m m (m + 1) k = k := by
  unfold rotI
  repeat' split
  all_goals omega
theorem rot_down {t m : Nat} (h0 : 0 < t) (h : t ≤ m) (k : Nat) : rotI (t - 1) m (m + 1) k = rotI t m (m + 1) (swI t (t - 1) k) := by
  unfold rotI swI
  repeat' split
  all_goals omega
theorem rot_in {a m b k : Nat} (h1 : a ≤ m) (h2 : m ≤ b) : (a ≤ k ∧ k < b → a ≤ rotI a m b k ∧ rotI a m b k < b) ∧ (¬ (a ≤ k ∧ k < b) → rotI a m b k = k) := by
  unfold rotI
  repeat' split
  all_goals omega
end Go.Dam.Stable

/-
  The plain law of merging two sorted parts in place (SymMerge), no program in sight: whatever the program's searches found, the parts that it turns leave all of the left half ahead of all of the right half. Conditions: a strict order of the elements; a test that agrees with it wherever an element of the right part is tested against one of the left part.
-/
namespace Go.Dam.Stable
set_option linter.unusedVariables false
variable {α : Type} {T : α → α → Prop}
/-- Sorted from a up to b. -/
def Srt (T : α → α → Prop) (F : Nat → α) (a b : Nat) : Prop := ∀ i j, a ≤ i → i < j → j < b → T (F i) (F j)
/-- All from a to m stand ahead of all from m to b. -/
def Sep (T : α → α → Prop) (F : Nat → α) (a m b : Nat) : Prop := ∀ i j, a ≤ i → i < m → m ≤ j → j < b → T (F i) (F j)
/-- The test of a right element against a left one tells the order. -/
def Tst (T : α → α → Prop) (lt : α → α → Bool) (F : Nat → α) (a m b : Nat) : Prop := ∀ i j, a ≤ i → i < m → m ≤ j → j < b → ((lt (F j) (F i) = true → T (F j) (F i)) ∧ (lt (F j) (F i) = false → T (F i) (F j)))
/-- G holds what F held, the places from a to b mixed among themselves. -/
def Mix (F G : Nat → α) (a b : Nat) : Prop := (∀ k, a ≤ k → k < b → ∃ k', a ≤ k' ∧ k' < b ∧ G k = F k') ∧ ∀ k, ¬ (a ≤ k ∧ k < b) → G k = F k
theorem Mix.refl (F : Nat → α) (a b : Nat) : Mix F F a b := ⟨fun k h1 h2 => ⟨k, h1, h2, rfl⟩, fun k _ => rfl⟩
theorem Mix.trans {F G H : Nat → α} {a b : Nat} (h : Mix F G a b) (g : Mix G H a b) : Mix F H a b :=
  ⟨fun k h1 h2 => by
    obtain ⟨k', e1, e2, e3⟩ := g.1 k h1 h2
    obtain ⟨k2, f1, f2, f3⟩ := h.1 k' e1 e2
    exact ⟨k2, f1, f2, e3.trans f3⟩, fun k hk => (g.2 k hk).trans (h.2 k hk)⟩
theorem Mix.wide {F G : Nat → α} {a b a' b' : Nat} (h : Mix F G a b) (h1 : a' ≤ a) (h2 : b ≤ b') : Mix F G a' b' :=
  ⟨fun k e1 e2 => by
    by_cases hk : a ≤ k ∧ k < b
    · obtain ⟨k', f1, f2, f3⟩ := h.1 k hk.1 hk.2
      exact ⟨k', by omega, by omega, f3⟩
    · exact ⟨k, e1, e2, h.2 k hk⟩, fun k hk => h.2 k (by omega)⟩
theorem Mix.of_map {F G : Nat → α} {φ : Nat → Nat} {a b : Nat} (h : ∀ k, G k = F (φ k)) (h1 : ∀ k, (a ≤ k ∧ k < b → a ≤ φ k ∧ φ k < b) ∧ (¬ (a ≤ k ∧ k < b) → φ k = k)) : Mix F G a b :=
  ⟨fun k e1 e2 => ⟨φ k, ((h1 k).1 ⟨e1, e2⟩).1, ((h1 k).1 ⟨e1, e2⟩).2, h k⟩, fun k hk => by rw [h k, (h1 k).2 hk]⟩
theorem Mix.same {F G : Nat → α} {a b k : Nat} (h : Mix F G a b) (hk : ¬ (a ≤ k ∧ k < b)) : G k = F k := h.2 k hk
theorem Srt.keep {F G : Nat → α} {a b c d : Nat} (h : Srt T F c d) (g : Mix F G a b) (hd : d ≤ a ∨ b ≤ c) : Srt T G c d := fun i j h1 h2 h3 => by
  rw [g.2 i (by omega), g.2 j (by omega)]; exact h i j h1 h2 h3
theorem Srt.sub {F : Nat → α} {a b c d : Nat} (h : Srt T F a b) (h1 : a ≤ c) (h2 : d ≤ b) : Srt T F c d := fun i j e1 e2 e3 => h i j (by omega) e2 (by omega)
theorem Srt.one (F : Nat → α) {a b : Nat} (h : b ≤ a + 1) : Srt T F a b := fun i j h1 h2 h3 => absurd h2 (by omega)
/-- Two sorted parts, one ahead of the other. -/
theorem Srt.join {F : Nat → α} {a m b : Nat} (h1 : Srt T F a m) (h2 : Srt T F m b) (h3 : Sep T F a m b) : Srt T F a b := fun i j e1 e2 e3 => by
  rcases Nat.lt_or_ge j m with g | g
  · exact h1 i j e1 e2 g
  · rcases Nat.lt_or_ge i m with g2 | g2
    · exact h3 i j e1 g2 g e3
    · exact h2 i j g2 e2 e3
theorem Sep.mixL {F G : Nat → α} {a m b : Nat} (h : Sep T F a m b) (g : Mix F G a m) : Sep T G a m b := fun i j h1 h2 h3 h4 => by
  obtain ⟨k, e1, e2, e3⟩ := g.1 i h1 h2
  rw [e3, g.2 j (by omega)]
  exact h k j e1 e2 h3 h4
theorem Sep.mixR {F G : Nat → α} {a m b : Nat} (h : Sep T F a m b) (g : Mix F G m b) : Sep T G a m b := fun i j h1 h2 h3 h4 => by
  obtain ⟨k, e1, e2, e3⟩ := g.1 j h3 h4
  rw [e3, g.2 i (by omega)]
  exact h i k h1 h2 e1 e2
section
variable (tr : ∀ x y z, T x y → T y z → T x z)
include tr
/-- T of neighbours in a sorted part, or the same. -/
theorem Srt.le {F : Nat → α} {a b i j : Nat} (h : Srt T F a b) (h1 : a ≤ i) (h2 : i ≤ j) (h3 : j < b) {z : α} (g : T (F j) z) : T (F i) z := by
  rcases Nat.lt_or_ge i j with e | e
  · exact tr _ _ _ (h i j h1 e h3) g
  · rwa [show i = j from by omega]
theorem Srt.ge {F : Nat → α} {a b i j : Nat} (h : Srt T F a b) (h1 : a ≤ i) (h2 : i ≤ j) (h3 : j < b) {z : α} (g : T z (F i)) : T z (F j) := by
  rcases Nat.lt_or_ge i j with e | e
  · exact tr _ _ _ g (h i j h1 e h3)
  · rwa [show j = i from by omega]
/-- The one left element goes to its place. -/
theorem merge_left {F G : Nat → α} {lt : α → α → Bool} {a b i : Nat} (hs : Srt T F (a + 1) b) (ht : Tst T lt F a (a + 1) b) (h1 : a + 1 ≤ i) (h2 : i ≤ b)
    (hlo : i = a + 1 ∨ lt (F (i - 1)) (F a) = true) (hhi : i = b ∨ lt (F i) (F a) = false) (hG : ∀ k, G k = F (rotI a (a + 1) i k)) : Srt T G a b := fun p q e1 e2 e3 => by
  have below : ∀ k, a + 1 ≤ k → k < i → T (F k) (F a) := fun k g1 g2 => by
    have hx : T (F (i - 1)) (F a) := by
      rcases hlo with h | h
      · omega
      · exact (ht a (i - 1) (Nat.le_refl _) (by omega) (by omega) (by omega)).1 h
    exact hs.le tr g1 (by omega) (by omega) hx
  have above : ∀ k, i ≤ k → k < b → T (F a) (F k) := fun k g1 g2 => by
    have hx : T (F a) (F i) := by
      rcases hhi with h | h
      · omega
      · exact (ht a i (Nat.le_refl _) (by omega) (by omega) (by omega)).2 h
    exact hs.ge tr (by omega) g1 g2 hx
  have e : ∀ k, (a ≤ k → k < i - 1 → G k = F (k + 1)) ∧ (k = i - 1 → G k = F a) ∧ (i ≤ k → G k = F k) := fun k => by
    refine ⟨fun g1 g2 => ?_, fun g1 => ?_, fun g1 => ?_⟩ <;> rw [hG k] <;> congr 1 <;> unfold rotI <;> (repeat' split) <;> omega
  rcases Nat.lt_or_ge p (i - 1) with c1 | c1
  · rw [(e p).1 e1 c1]
    rcases Nat.lt_or_ge q (i - 1) with c2 | c2
    · rw [(e q).1 (by omega) c2]; exact hs (p + 1) (q + 1) (by omega) (by omega) (by omega)
    · by_cases c3 : q = i - 1
      · rw [(e q).2.1 c3]; exact below (p + 1) (by omega) (by omega)
      · rw [(e q).2.2 (by omega)]; exact hs (p + 1) q (by omega) (by omega) e3
  · by_cases c3 : p = i - 1
    · rw [(e p).2.1 c3, (e q).2.2 (by omega)]; exact above q (by omega) e3
    · rw [(e p).2.2 (by omega), (e q).2.2 (by omega)]; exact hs p q (by omega) e2 e3
/-- The one right element goes to its place. -/
theorem merge_right {F G : Nat → α} {lt : α → α → Bool} {a m i : Nat} (hs : Srt T F a m) (ht : Tst T lt F a m (m + 1)) (h1 : a ≤ i) (h2 : i ≤ m)
    (hlo : i = a ∨ lt (F m) (F (i - 1)) = false) (hhi : i = m ∨ lt (F m) (F i) = true) (hG : ∀ k, G k = F (rotI i m (m + 1) k)) : Srt T G a (m + 1) := fun p q e1 e2 e3 => by
  have below : ∀ k, a ≤ k → k < i → T (F k) (F m) := fun k g1 g2 => by
    have hx : T (F (i - 1)) (F m) := by
      rcases hlo with h | h
      · omega
      · exact (ht (i - 1) m (by omega) (by omega) (Nat.le_refl _) (by omega)).2 h
    exact hs.le tr g1 (by omega) (by omega) hx
  have above : ∀ k, i ≤ k → k < m → T (F m) (F k) := fun k g1 g2 => by
    have hx : T (F m) (F i) := by
      rcases hhi with h | h
      · omega
      · exact (ht i m (by omega) (by omega) (Nat.le_refl _) (by omega)).1 h
    exact hs.ge tr (by omega) g1 g2 hx
  have e : ∀ k, (k < i → G k = F k) ∧ (k = i → G k = F m) ∧ (i < k → k < m + 1 → G k = F (k - 1)) := fun k => by
    refine ⟨fun g1 => ?_, fun g1 => ?_, fun g1 g2 => ?_⟩ <;> rw [hG k] <;> congr 1 <;> unfold rotI <;> (repeat' split) <;> omega
  rcases Nat.lt_or_ge p i with c1 | c1
  · rw [(e p).1 c1]
    rcases Nat.lt_or_ge q i with c2 | c2
    · rw [(e q).1 c2]; exact hs p q e1 e2 (by omega)
    · by_cases c3 : q = i
      · rw [(e q).2.1 c3]; exact below p e1 c1
      · rw [(e q).2.2 (by omega) e3]; exact hs p (q - 1) e1 (by omega) (by omega)
  · by_cases c3 : p = i
    · rw [(e p).2.1 c3, (e q).2.2 (by omega) e3]; exact above (q - 1) (by omega) (by omega)
    · rw [(e p).2.2 (by omega) (by omega), (e q).2.2 (by omega) e3]; exact hs (p - 1) (q - 1) (by omega) (by omega) (by omega)
/-- What turning leaves: the left half ahead of the right half, each of them two sorted parts that can be merged. -/
theorem merge_mid {F G : Nat → α} {lt : α → α → Bool} {a m b mid start : Nat} (hl : Srt T F a m) (hr : Srt T F m b) (ht : Tst T lt F a m b) (ham : a < m) (hmb : m < b) (hmid : mid = (a + b) / 2)
    (hs1 : a ≤ start) (hs2 : mid + m ≤ b + start) (hs3 : start ≤ mid) (hs4 : start ≤ m)
    (hlo : start = a ∨ mid + m = b + start ∨ lt (F (mid + m - start)) (F (start - 1)) = false) (hhi : start = mid ∨ start = m ∨ lt (F (mid + m - 1 - start)) (F start) = true)
    (hG : ∀ k, G k = F (rotI start m (mid + m - start) k)) :
    Sep T G a mid b ∧ Srt T G a start ∧ Srt T G start mid ∧ Srt T G mid (mid + m - start) ∧ Srt T G (mid + m - start) b ∧ Tst T lt G a start mid ∧ Tst T lt G mid (mid + m - start) b := by
  have e : ∀ k, (k < start → G k = F k) ∧ (start ≤ k → k < mid → G k = F (k - start + m)) ∧ (mid ≤ k → k < mid + m - start → G k = F (k - (mid - start))) ∧ (mid + m - start ≤ k → G k = F k) := fun k => by
    refine ⟨fun g1 => ?_, fun g1 g2 => ?_, fun g1 g2 => ?_, fun g1 => ?_⟩ <;> rw [hG k] <;> congr 1 <;> unfold rotI <;> (repeat' split) <;> omega
  -- ahead: the left part's first ones; then the right part's first ones; then the left part's last ones; then the right part's last ones
  have low : ∀ i j, a ≤ i → i < start → mid + m - start ≤ j → j < b → T (F i) (F j) := fun i j g1 g2 g3 g4 => by
    have hx : T (F (start - 1)) (F (mid + m - start)) := by
      rcases hlo with h | h | h
      · omega
      · omega
      · exact (ht (start - 1) (mid + m - start) (by omega) (by omega) (by omega) (by omega)).2 h
    exact hl.le tr g1 (show i ≤ start - 1 by omega) (by omega) (hr.ge tr (show m ≤ mid + m - start by omega) g3 g4 hx)
  have high : ∀ i j, m ≤ i → i < mid + m - start → start ≤ j → j < m → T (F i) (F j) := fun i j g1 g2 g3 g4 => by
    have hx : T (F (mid + m - 1 - start)) (F start) := by
      rcases hhi with h | h | h
      · omega
      · omega
      · exact (ht start (mid + m - 1 - start) (by omega) (by omega) (by omega) (by omega)).1 h
    exact hr.le tr g1 (show i ≤ mid + m - 1 - start by omega) (by omega) (hl.ge tr hs1 g3 g4 hx)
  refine ⟨fun i j g1 g2 g3 g4 => ?_, fun i j g1 g2 g3 => ?_, fun i j g1 g2 g3 => ?_, fun i j g1 g2 g3 => ?_, fun i j g1 g2 g3 => ?_, fun i j g1 g2 g3 g4 => ?_, fun i j g1 g2 g3 g4 => ?_⟩
  · rcases Nat.lt_or_ge i start with c1 | c1
    · rw [(e i).1 c1]
      rcases Nat.lt_or_ge j (mid + m - start) with c2 | c2
      · rw [(e j).2.2.1 g3 c2]; exact hl i _ g1 (by omega) (by omega)
      · rw [(e j).2.2.2 c2]; exact low i j g1 c1 c2 g4
    · rw [(e i).2.1 c1 g2]
      rcases Nat.lt_or_ge j (mid + m - start) with c2 | c2
      · rw [(e j).2.2.1 g3 c2]; exact high _ _ (by omega) (by omega) (by omega) (by omega)
      · rw [(e j).2.2.2 c2]; exact hr _ j (by omega) (by omega) g4
  · rw [(e i).1 (by omega), (e j).1 g3]; exact hl i j g1 g2 (by omega)
  · rw [(e i).2.1 g1 (by omega), (e j).2.1 (by omega) g3]; exact hr _ _ (by omega) (by omega) (by omega)
  · rw [(e i).2.2.1 g1 (by omega), (e j).2.2.1 (by omega) g3]; exact hl _ _ (by omega) (by omega) (by omega)
  · rw [(e i).2.2.2 g1, (e j).2.2.2 (by omega)]; exact hr i j (by omega) g2 g3
  · rw [(e i).1 g2, (e j).2.1 g3 g4]; exact ht i _ g1 (by omega) (by omega) (by omega)
  · rw [(e i).2.2.1 g1 g2, (e j).2.2.2 g3]; exact ht _ j (by omega) (by omega) (by omega) g4
end
end Go.Dam.Stable

/-
  The plain law of the library's insertion sort over a test that tells a strict order where a later element is tested against an earlier one; and what permuting a part leaves. No program in sight. Conditions: bounds.
-/
namespace Go.Dam.Stable
open Go.Sort
set_option linter.unusedVariables false
set_option linter.unusedSectionVars false
variable {α : Type} [Inhabited α] {T : α → α → Prop}
/-- What a row holds. -/
def G (d : Array α) (k : Nat) : α := d[k]!
/-- A test of a later element against an earlier one tells the order. -/
def Tst0 (T : α → α → Prop) (lt : α → α → Bool) (F : Nat → α) (a b : Nat) : Prop := ∀ p q, a ≤ p → p < q → q < b → ((lt (F q) (F p) = true → T (F q) (F p)) ∧ (lt (F q) (F p) = false → T (F p) (F q)))
theorem Tst0.sub {lt : α → α → Bool} {F : Nat → α} {a b c d : Nat} (h : Tst0 T lt F a b) (h1 : a ≤ c) (h2 : d ≤ b) : Tst0 T lt F c d := fun p q e1 e2 e3 => h p q (by omega) e2 (by omega)
/-- Whatever stands in a permuted part stood in it. -/
theorem PermIn_from {a b : Nat} {d d' : Array α} (hb : b ≤ d.size) (h : PermIn a b d d') : ∀ k, a ≤ k → k < b → ∃ k', a ≤ k' ∧ k' < b ∧ G d' k = G d k' :=
  permIn_all d d' a b (fun x => ∃ k', a ≤ k' ∧ k' < b ∧ x = G d k') hb h fun i h1 h2 => ⟨i, h1, h2, rfl⟩
theorem PermIn_out {a b k : Nat} {d d' : Array α} (h : PermIn a b d d') (hk : k < a ∨ b ≤ k) : G d' k = G d k := h.2.1 k hk
theorem PermIn_mix {a b : Nat} {d d' : Array α} (hb : b ≤ d.size) (h : PermIn a b d d') : Mix (G d) (G d') a b := ⟨PermIn_from hb h, fun k hk => PermIn_out h (by omega)⟩
theorem swp_get' {d : Array α} {i j : Nat} (hi : i < d.size) (hj : j < d.size) (k : Nat) : G (swp d i j) k = G d (swI i j k) := by
  unfold G swI
  by_cases hij : i = j
  · subst hij
    rcases Decidable.em (k = i) with rfl | h
    · rw [if_pos rfl, swp_right d k k hi]
    · rw [if_neg h, if_neg h, swp_other d i i k h h]
  · by_cases h1 : k = i
    · rw [if_pos h1, h1, swp_left d i j hi hij]
    · by_cases h2 : k = j
      · rw [if_neg h1, if_pos h2, h2, swp_right d i j hj]
      · rw [if_neg h1, if_neg h2, swp_other d i j k h1 h2]
section
variable (tr : ∀ x y z, T x y → T y z → T x z)
include tr
theorem ins_stop {F : Nat → α} {a i j : Nat} (h1 : Srt T F a j) (h2 : Srt T F (j + 1) (i + 1)) (h3 : ∀ p q, a ≤ p → p < j → j < q → q ≤ i → T (F p) (F q)) (h4 : ∀ q, j < q → q ≤ i → T (F j) (F q))
    (hj : j ≤ a ∨ T (F (j - 1)) (F j)) : Srt T F a (i + 1) := fun p q e1 e2 e3 => by
  rcases Nat.lt_trichotomy q j with g | g | g
  · exact h1 p q e1 e2 g
  · subst g
    rcases hj with hj | hj
    · omega
    · exact h1.le tr e1 (show p ≤ q - 1 by omega) (by omega) hj
  · rcases Nat.lt_trichotomy p j with g2 | g2 | g2
    · exact h3 p q e1 g2 g (by omega)
    · subst g2; exact h4 q g (by omega)
    · exact h2 p q g2 e2 e3
theorem ins_inner {lt : α → α → Bool} {a i : Nat} : ∀ (j : Nat) (d : Array α), j ≤ i → i < d.size → a ≤ j → Srt T (G d) a j → Srt T (G d) (j + 1) (i + 1) → (∀ p q, a ≤ p → p < j → j < q → q ≤ i → T (G d p) (G d q)) → (∀ q, j < q → q ≤ i → T (G d j) (G d q)) →
    (∀ p, a ≤ p → p < j → (lt (G d j) (G d p) = true → T (G d j) (G d p)) ∧ (lt (G d j) (G d p) = false → T (G d p) (G d j))) → Srt T (G (insInner lt a j d)) a (i + 1) ∧ PermIn a (i + 1) d (insInner lt a j d)
  | 0, d, hji, hi, haj, h1, h2, h3, h4, h5 => ⟨by rw [insInner]; exact ins_stop tr h1 h2 h3 h4 (.inl (Nat.zero_le _)), by rw [insInner]; exact permIn_refl _ _ _⟩
  | j + 1, d, hji, hi, haj, h1, h2, h3, h4, h5 => by
    rw [insInner]
    by_cases hja : a < j + 1
    · cases hl : lt d[j + 1]! d[j]! with
      | false =>
        rw [if_neg (by simp)]
        exact ⟨ins_stop tr h1 h2 h3 h4 (.inr ((h5 j (by omega) (by omega)).2 hl)), permIn_refl _ _ _⟩
      | true =>
        rw [if_pos (by simp; omega)]
        have hT : T (G d (j + 1)) (G d j) := (h5 j (by omega) (by omega)).1 hl
        have sw : ∀ k, G (swp d (j + 1) j) k = G d (swI (j + 1) j k) := swp_get' (by omega) (by omega)
        have s1 : G (swp d (j + 1) j) (j + 1) = G d j := by rw [sw]; unfold swI; rw [if_pos rfl]
        have s0 : G (swp d (j + 1) j) j = G d (j + 1) := by rw [sw]; unfold swI; rw [if_neg (by omega), if_pos rfl]
        have so : ∀ k, (k < j ∨ j + 1 < k) → G (swp d (j + 1) j) k = G d k := fun k c => by rw [sw]; unfold swI; rw [if_neg (by omega), if_neg (by omega)]
        have hp := swp_permIn d a (i + 1) (j + 1) j (by omega) (by omega) (by omega) (by omega) (by omega)
        obtain ⟨r1, r2⟩ := ins_inner (lt := lt) (a := a) (i := i) j (swp d (j + 1) j) (by omega) (by rw [Go.Sort.size_swp]; exact hi) (by omega)
          (fun p q e1 e2 e3 => by rw [so p (.inl (by omega)), so q (.inl (by omega))]; exact h1 p q e1 e2 (by omega))
          (fun p q e1 e2 e3 => by
            rw [so q (.inr (by omega))]
            by_cases g : p = j + 1
            · rw [g, s1]; exact h3 j q (by omega) (by omega) (by omega) (by omega)
            · rw [so p (.inr (by omega))]; exact h2 p q (by omega) e2 e3)
          (fun p q e1 e2 e3 e4 => by
            rw [so p (.inl (by omega))]
            by_cases g : q = j + 1
            · rw [g, s1]; exact h1 p j e1 e2 (by omega)
            · rw [so q (.inr (by omega))]; exact h3 p q e1 (by omega) (by omega) e4)
          (fun q e3 e4 => by
            rw [s0]
            by_cases g : q = j + 1
            · rw [g, s1]; exact hT
            · rw [so q (.inr (by omega))]; exact h4 q (by omega) e4)
          (fun p e1 e2 => by rw [s0, so p (.inl (by omega))]; exact h5 p e1 (by omega))
        exact ⟨r1, permIn_trans _ _ _ _ _ hp r2⟩
    · rw [if_neg (by simp; omega)]
      exact ⟨ins_stop tr h1 h2 h3 h4 (.inl (by omega)), permIn_refl _ _ _⟩
theorem ins_outer {lt : α → α → Bool} {a b : Nat} {d0 : Array α} (ht : Tst0 T lt (G d0) a b) (hb : b ≤ d0.size) : ∀ (t i : Nat) (d : Array α), i + t = b → a < i → PermIn a i d0 d → Srt T (G d) a i →
    PermIn a b d0 (insOuter lt a b i d) ∧ Srt T (G (insOuter lt a b i d)) a b
  | 0, i, d, hi, hai, hp, hs => by
    rw [insOuter, if_neg (by omega)]
    obtain rfl : i = b := by omega
    exact ⟨hp, hs⟩
  | t + 1, i, d, hi, hai, hp, hs => by
    rw [insOuter, if_pos (by omega)]
    have hsz : d.size = d0.size := hp.1
    have hx : G d i = G d0 i := PermIn_out hp (.inr (Nat.le_refl _))
    obtain ⟨r1, r2⟩ := ins_inner tr (lt := lt) (a := a) (i := i) i d (Nat.le_refl _) (by omega) (by omega) hs (Srt.one _ (by omega)) (fun p q e1 e2 e3 e4 => by omega) (fun q e1 e2 => by omega) (fun p e1 e2 => by
      obtain ⟨k, k1, k2, k3⟩ := PermIn_from (by omega) hp p e1 e2
      rw [hx, k3]
      exact ht k i k1 k2 (by omega))
    have hp' := permIn_mono d0 d a i a (i + 1) (Nat.le_refl _) (by omega) (by omega) hp
    exact ins_outer ht hb t (i + 1) _ (by omega) (by omega) (permIn_trans _ _ _ _ _ hp' r2) r1
/-- The insertion sort of a part. -/
theorem ins_sort {lt : α → α → Bool} {a b : Nat} {d : Array α} (ht : Tst0 T lt (G d) a b) (hab : a ≤ b) (hb : b ≤ d.size) : PermIn a b d (insertionSort lt d a b) ∧ Srt T (G (insertionSort lt d a b)) a b := by
  unfold insertionSort
  by_cases h : a < b
  · exact ins_outer tr ht hb (b - (a + 1)) (a + 1) d (by omega) (by omega) (permIn_refl _ _ _) (Srt.one _ (by omega))
  · rw [insOuter, if_neg (by omega)]
    exact ⟨permIn_refl _ _ _, Srt.one _ (by omega)⟩
end
/-- A part is sorted, and of its own elements. -/
def Done (T : α → α → Prop) (d0 d : Array α) (lo hi : Nat) : Prop := Srt T (G d) lo hi ∧ ∀ p, lo ≤ p → p < hi → ∃ p', lo ≤ p' ∧ p' < hi ∧ G d p = G d0 p'
theorem Done.same {d0 d d' : Array α} {lo hi : Nat} (h : Done T d0 d lo hi) (he : ∀ p, lo ≤ p → p < hi → G d' p = G d p) : Done T d0 d' lo hi :=
  ⟨fun i j h1 h2 h3 => by rw [he i h1 (by omega), he j (by omega) h3]; exact h.1 i j h1 h2 h3, fun p h1 h2 => by rw [he p h1 h2]; exact h.2 p h1 h2⟩
theorem Done.far {d0 d d' : Array α} {lo hi a b : Nat} (h : Done T d0 d lo hi) (hp : PermIn a b d d') (hd : hi ≤ a ∨ b ≤ lo) : Done T d0 d' lo hi :=
  h.same fun p h1 h2 => PermIn_out hp (by omega)
theorem Done.tst {lt : α → α → Bool} {d0 d : Array α} {lo m hi n : Nat} (ht : Tst0 T lt (G d0) 0 n) (h : Done T d0 d lo m) (g : Done T d0 d m hi) (hn : hi ≤ n) : Tst T lt (G d) lo m hi := fun i j h1 h2 h3 h4 => by
  obtain ⟨i', a1, a2, a3⟩ := h.2 i h1 h2
  obtain ⟨j', b1, b2, b3⟩ := g.2 j h3 h4
  rw [a3, b3]
  exact ht i' j' (Nat.zero_le _) (by omega) (by omega)
theorem Done.merge {d0 d d' : Array α} {lo m hi : Nat} (h : Done T d0 d lo m) (g : Done T d0 d m hi) (h1 : lo ≤ m) (h2 : m ≤ hi) (hs : hi ≤ d.size) (hp : PermIn lo hi d d') (hsr : Srt T (G d') lo hi) : Done T d0 d' lo hi :=
  ⟨hsr, fun p e1 e2 => by
    obtain ⟨k, k1, k2, k3⟩ := PermIn_from hs hp p e1 e2
    rcases Nat.lt_or_ge k m with c | c
    · obtain ⟨k', a1, a2, a3⟩ := h.2 k k1 c
      exact ⟨k', a1, by omega, k3.trans a3⟩
    · obtain ⟨k', a1, a2, a3⟩ := g.2 k c k2
      exact ⟨k', by omega, a2, k3.trans a3⟩⟩
theorem Done.start {d0 d d' : Array α} {lo hi : Nat} (h : ∀ p, lo ≤ p → p < hi → G d p = G d0 p) (hs : hi ≤ d.size) (hp : PermIn lo hi d d') (hsr : Srt T (G d') lo hi) : Done T d0 d' lo hi :=
  ⟨hsr, fun p e1 e2 => by
    obtain ⟨k, k1, k2, k3⟩ := PermIn_from hs hp p e1 e2
    exact ⟨k, k1, k2, k3.trans (h k k1 k2)⟩⟩
theorem gap {c x a : Nat} (h1 : c ∣ x) (h2 : c ∣ a) (h : x < a) : x + c ≤ a := by
  obtain ⟨i, rfl⟩ := h1
  obtain ⟨j, rfl⟩ := h2
  have : i < j := Nat.lt_of_mul_lt_mul_left h
  calc c * i + c = c * (i + 1) := by rw [Nat.mul_add, Nat.mul_one]
    _ ≤ c * j := Nat.mul_le_mul_left _ this
/-- All parts of width s are done. -/
def AllDone (T : α → α → Prop) (d0 d : Array α) (s n : Nat) : Prop := PermIn 0 n d0 d ∧ ∀ x, s ∣ x → x < n → Done T d0 d x (min (x + s) n)
/-- The first pass: the parts ahead of a are done, what is behind is as it was. -/
def Pass1 (T : α → α → Prop) (d0 d : Array α) (s n a : Nat) : Prop := PermIn 0 n d0 d ∧ s ∣ a ∧ a ≤ n ∧ (∀ x, s ∣ x → x < a → Done T d0 d x (x + s)) ∧ ∀ p, a ≤ p → G d p = G d0 p
theorem Pass1.start (d : Array α) (s n : Nat) : Pass1 T d d s n 0 := ⟨permIn_refl _ _ _, Nat.dvd_zero _, Nat.zero_le _, fun x _ h => absurd h (by omega), fun p _ => rfl⟩
theorem Pass1.next {d0 d d' : Array α} {s n a : Nat} (h : Pass1 T d0 d s n a) (hn : a + s ≤ n) (hs : n ≤ d0.size) (hp : PermIn a (a + s) d d') (hsr : Srt T (G d') a (a + s)) : Pass1 T d0 d' s n (a + s) := by
  obtain ⟨h1, h2, h3, h4, h5⟩ := h
  have hsz := h1.1
  refine ⟨permIn_trans _ _ _ _ _ h1 (permIn_mono _ _ _ _ _ _ (Nat.zero_le _) hn (by omega) hp), Nat.dvd_add h2 (Nat.dvd_refl _), hn, fun x e1 e2 => ?_, fun p e => ?_⟩
  · rcases Nat.lt_or_ge x a with c | c
    · exact (h4 x e1 c).far hp (.inl (gap e1 h2 c))
    · have : x = a := by
        rcases Nat.lt_or_ge a x with c2 | c2
        · have := gap h2 e1 c2; omega
        · omega
      subst this
      exact Done.start (fun p q1 _ => h5 p q1) (by omega) hp hsr
  · rw [PermIn_out hp (.inr e)]; exact h5 p (by omega)
theorem Pass1.last {d0 d d' : Array α} {s n a : Nat} (h : Pass1 T d0 d s n a) (hn : n < a + s) (hs : n ≤ d0.size) (hp : PermIn a n d d') (hsr : Srt T (G d') a n) : AllDone T d0 d' s n := by
  obtain ⟨h1, h2, h3, h4, h5⟩ := h
  have hsz := h1.1
  refine ⟨permIn_trans _ _ _ _ _ h1 (permIn_mono _ _ _ _ _ _ (Nat.zero_le _) (Nat.le_refl _) (by omega) hp), fun x e1 e2 => ?_⟩
  rcases Nat.lt_or_ge x a with c | c
  · have := gap e1 h2 c
    rw [show min (x + s) n = x + s from by omega]
    exact (h4 x e1 c).far hp (.inl this)
  · have : x = a := by
      rcases Nat.lt_or_ge a x with c2 | c2
      · have := gap h2 e1 c2; omega
      · omega
    subst this
    rw [show min (x + s) n = n from by omega]
    exact Done.start (fun p q1 _ => h5 p q1) (by omega) hp hsr
/-- A pass of merging: ahead of a parts of the double width are done. -/
def Pass2 (T : α → α → Prop) (d0 d : Array α) (s n a : Nat) : Prop := PermIn 0 n d0 d ∧ 2 * s ∣ a ∧ a ≤ n ∧ (∀ x, 2 * s ∣ x → x < a → Done T d0 d x (x + 2 * s)) ∧ ∀ x, s ∣ x → a ≤ x → x < n → Done T d0 d x (min (x + s) n)
theorem Pass2.start {d0 d : Array α} {s n : Nat} (h : AllDone T d0 d s n) : Pass2 T d0 d s n 0 := ⟨h.1, Nat.dvd_zero _, Nat.zero_le _, fun x _ h => absurd h (by omega), fun x e _ e2 => h.2 x e e2⟩
theorem Pass2.two {d0 d : Array α} {s n a : Nat} (h : Pass2 T d0 d s n a) (hn : a + s < n) (h0 : 0 < s) : Done T d0 d a (a + s) ∧ Done T d0 d (a + s) (min (a + 2 * s) n) := by
  obtain ⟨h1, h2, h3, h4, h5⟩ := h
  have hd : s ∣ a := Nat.dvd_trans (Nat.dvd_mul_left _ _) h2
  have e1 := h5 a hd (Nat.le_refl _) (by omega)
  have e2 := h5 (a + s) (Nat.dvd_add hd (Nat.dvd_refl _)) (by omega) hn
  rw [show min (a + s) n = a + s from by omega] at e1
  rw [show a + s + s = a + 2 * s from by omega] at e2
  exact ⟨e1, e2⟩
theorem Pass2.next {d0 d d' : Array α} {s n a : Nat} (h : Pass2 T d0 d s n a) (h0 : 0 < s) (hn : a + 2 * s ≤ n) (hs : n ≤ d0.size) (hp : PermIn a (a + 2 * s) d d') (hsr : Srt T (G d') a (a + 2 * s)) : Pass2 T d0 d' s n (a + 2 * s) := by
  obtain ⟨e1, e2⟩ := h.two (by omega) h0
  rw [show min (a + 2 * s) n = a + 2 * s from by omega] at e2
  obtain ⟨h1, h2, h3, h4, h5⟩ := h
  have hsz := h1.1
  refine ⟨permIn_trans _ _ _ _ _ h1 (permIn_mono _ _ _ _ _ _ (Nat.zero_le _) hn (by omega) hp), Nat.dvd_add h2 (Nat.dvd_refl _), hn, fun x g1 g2 => ?_, fun x g1 g2 g3 => ?_⟩
  · rcases Nat.lt_or_ge x a with c | c
    · exact (h4 x g1 c).far hp (.inl (gap g1 h2 c))
    · have : x = a := by
        rcases Nat.lt_or_ge a x with c2 | c2
        · have := gap h2 g1 c2; omega
        · omega
      subst this
      exact e1.merge e2 (by omega) (by omega) (by omega) hp hsr
  · exact (h5 x g1 (by omega) g3).far hp (.inr g2)
theorem Pass2.last {d0 d d' : Array α} {s n a : Nat} (h : Pass2 T d0 d s n a) (h0 : 0 < s) (hn : n < a + 2 * s) (hm : a + s < n) (hs : n ≤ d0.size) (hp : PermIn a n d d') (hsr : Srt T (G d') a n) : AllDone T d0 d' (2 * s) n := by
  obtain ⟨e1, e2⟩ := h.two hm h0
  rw [show min (a + 2 * s) n = n from by omega] at e2
  obtain ⟨h1, h2, h3, h4, h5⟩ := h
  have hsz := h1.1
  refine ⟨permIn_trans _ _ _ _ _ h1 (permIn_mono _ _ _ _ _ _ (Nat.zero_le _) (Nat.le_refl _) (by omega) hp), fun x g1 g2 => ?_⟩
  rcases Nat.lt_or_ge x a with c | c
  · have := gap g1 h2 c
    rw [show min (x + 2 * s) n = x + 2 * s from by omega]
    exact (h4 x g1 c).far hp (.inl this)
  · have : x = a := by
      rcases Nat.lt_or_ge a x with c2 | c2
      · have := gap h2 g1 c2; omega
      · omega
    subst this
    rw [show min (x + 2 * s) n = n from by omega]
    exact e1.merge e2 (by omega) (by omega) (by omega) hp hsr
theorem Pass2.none_ {d0 d : Array α} {s n a : Nat} (h : Pass2 T d0 d s n a) (h0 : 0 < s) (hn : n < a + 2 * s) (hm : n ≤ a + s) : AllDone T d0 d (2 * s) n := by
  obtain ⟨h1, h2, h3, h4, h5⟩ := h
  refine ⟨h1, fun x g1 g2 => ?_⟩
  rcases Nat.lt_or_ge x a with c | c
  · have := gap g1 h2 c
    rw [show min (x + 2 * s) n = x + 2 * s from by omega]
    exact h4 x g1 c
  · have : x = a := by
      rcases Nat.lt_or_ge a x with c2 | c2
      · have := gap h2 g1 c2; omega
      · omega
    subst this
    have := h5 x (Nat.dvd_trans (Nat.dvd_mul_left _ _) h2) (Nat.le_refl _) g2
    rw [show min (x + s) n = n from by omega] at this
    rw [show min (x + 2 * s) n = n from by omega]
    exact this
theorem AllDone.end_ {d0 d : Array α} {s n : Nat} (h : AllDone T d0 d s n) (hn : n ≤ s) : PermIn 0 n d0 d ∧ Srt T (G d) 0 n := by
  refine ⟨h.1, ?_⟩
  rcases Nat.eq_zero_or_pos n with e | e
  · subst e; exact Srt.one _ (by omega)
  · have := (h.2 0 (Nat.dvd_zero _) e).1
    rwa [show min (0 + s) n = n from by omega] at this
end Go.Dam.Stable

/-
  The plain law of a stable sort, no program in sight: what a stable sort leaves is one list alone; and the words between a sorted array of tagged elements and that list. Conditions: none.
-/
namespace Go.Dam.Stable
open Go.Sort
set_option linter.unusedVariables false
variable {β : Type}
/-- Elements with the places that they had. -/
def tagL (l : List β) : List (Nat × β) := l.zipIdx.map fun p => (p.2, p.1)
theorem tagL_len (l : List β) : (tagL l).length = l.length := by simp [tagL]
theorem tagL_get (l : List β) (k : Nat) (h : k < l.length) : (tagL l)[k]? = some (k, l[k]) := by
  simp [tagL, List.getElem?_zipIdx, h]
theorem tagL_snd (l : List β) : (tagL l).map (·.2) = l := by
  unfold tagL
  rw [List.map_map]
  have : ((fun p : Nat × β => p.2) ∘ fun p : β × Nat => (p.2, p.1)) = Prod.fst := rfl
  rw [this, List.zipIdx_map_fst]
/-- Ahead by the order; or alike, and ahead by the place. -/
def TagT (lt : β → β → Bool) (x y : Nat × β) : Prop := lt x.2 y.2 = true ∨ (lt y.2 x.2 = false ∧ lt x.2 y.2 = false ∧ x.1 < y.1)
/-- A strict order by classes. -/
structure Weak (lt : β → β → Bool) : Prop where
  asym : ∀ x y, lt x y = true → lt y x = false
  tr : ∀ x y z, lt x y = true → lt y z = true → lt x z = true
  neg : ∀ x y z, lt x y = false → lt y z = false → lt x z = false
theorem TagT.tr {lt : β → β → Bool} (h : Weak lt) (x y z : Nat × β) (h1 : TagT lt x y) (h2 : TagT lt y z) : TagT lt x z := by
  rcases h1 with h1 | ⟨a1, a2, a3⟩
  · rcases h2 with h2 | ⟨b1, b2, b3⟩
    · exact .inl (h.tr _ _ _ h1 h2)
    · refine .inl ?_
      cases hx : lt x.2 z.2
      · have := h.neg _ _ _ hx b1
        rw [h1] at this; cases this
      · rfl
  · rcases h2 with h2 | ⟨b1, b2, b3⟩
    · refine .inl ?_
      cases hx : lt x.2 z.2
      · have := h.neg _ _ _ a1 hx
        rw [h2] at this; cases this
      · rfl
    · exact .inr ⟨h.neg _ _ _ b1 a1, h.neg _ _ _ a2 b2, by omega⟩
theorem TagT.asym {lt : β → β → Bool} (h : Weak lt) {x y : Nat × β} (h1 : TagT lt x y) : ¬ TagT lt y x := by
  rintro (h2 | ⟨b1, b2, b3⟩)
  · rcases h1 with h1 | ⟨a1, a2, a3⟩
    · have := h.asym _ _ h1; rw [h2] at this; cases this
    · rw [h2] at a1; cases a1
  · rcases h1 with h1 | ⟨a1, a2, a3⟩
    · rw [h1] at b1; cases b1
    · omega
/-- r is what a stable sort of l leaves. -/
def StabR (lt : β → β → Bool) (l r : List β) : Prop := ∃ m : List (Nat × β), m.Perm (tagL l) ∧ m.Pairwise (TagT lt) ∧ r = m.map (·.2)
theorem perm_sorted_uniq {α : Type} {T : α → α → Prop} (as : ∀ x y, T x y → ¬ T y x) : ∀ {l m : List α}, l.Perm m → l.Pairwise T → m.Pairwise T → l = m
  | [], m, h, _, _ => by rw [List.nil_perm.1 h]
  | x :: l, [], h, _, _ => by cases List.perm_nil.1 h
  | x :: l, y :: m, h, h1, h2 => by
    have hxy : x = y := by
      have m1 : x ∈ y :: m := h.mem_iff.1 (by simp)
      have m2 : y ∈ x :: l := h.mem_iff.2 (by simp)
      rcases List.mem_cons.1 m1 with e | e
      · exact e
      · rcases List.mem_cons.1 m2 with e2 | e2
        · exact e2.symm
        · exact absurd ((List.pairwise_cons.1 h2).1 x e) (as _ _ ((List.pairwise_cons.1 h1).1 y e2))
    subst hxy
    rw [perm_sorted_uniq as (List.perm_cons x |>.1 h) (List.pairwise_cons.1 h1).2 (List.pairwise_cons.1 h2).2]
theorem StabR.uniq {lt : β → β → Bool} (hw : Weak lt) {l r r' : List β} (h : StabR lt l r) (g : StabR lt l r') : r = r' := by
  obtain ⟨m, h1, h2, rfl⟩ := h
  obtain ⟨m', g1, g2, rfl⟩ := g
  rw [perm_sorted_uniq (fun _ _ => TagT.asym hw) (h1.trans g1.symm) h2 g2]
theorem StabR.len {lt : β → β → Bool} {l r : List β} (h : StabR lt l r) : r.length = l.length := by
  obtain ⟨m, h1, _, rfl⟩ := h
  rw [List.length_map, h1.length_eq, tagL_len]
theorem StabR.perm {lt : β → β → Bool} {l r : List β} (h : StabR lt l r) : r.Perm l := by
  obtain ⟨m, h1, _, rfl⟩ := h
  have := h1.map (·.2)
  rwa [tagL_snd] at this
section
variable [Inhabited β]
theorem tag_at {l : List β} {k : Nat} (h : k < l.length) : G (tagL l).toArray k = (k, l[k]) := by
  unfold G
  rw [getElem!_pos _ k (by simpa [tagL_len] using h)]
  have := tagL_get l k h
  rw [List.getElem?_eq_getElem (by rw [tagL_len]; exact h)] at this
  simpa using this
theorem tag_tst {lt : β → β → Bool} (hw : Weak lt) (l : List β) : Tst0 (TagT lt) (fun x y => lt x.2 y.2) (G (tagL l).toArray) 0 l.length := fun p q h1 h2 h3 => by
  rw [tag_at h3, tag_at (show p < l.length by omega)]
  refine ⟨fun h => .inl h, fun h => ?_⟩
  cases hx : lt l[p] l[q]
  · exact .inr ⟨h, hx, h2⟩
  · exact .inl hx
theorem stabR_of {lt : β → β → Bool} {l : List β} {d' : Array (Nat × β)} {n : Nat} (hn : n = l.length) (hp : PermIn 0 n (tagL l).toArray d') (hs : Srt (TagT lt) (G d') 0 n) : StabR lt l (d'.toList.map (·.2)) := by
  subst hn
  have hz : d'.size = l.length := by rw [hp.1]; simp [tagL_len]
  refine ⟨d'.toList, ?_, ?_, rfl⟩
  · have := hp.2.2
    rw [← hz, Array.extract_size, hz] at this
    have e : (tagL l).toArray.extract 0 l.length = (tagL l).toArray := by
      have : l.length = (tagL l).toArray.size := by simp [tagL_len]
      rw [this, Array.extract_size]
    rw [e] at this
    exact this
  · rw [List.pairwise_iff_getElem]
    intro i j hi hj hij
    have hi' : i < d'.size := by simpa using hi
    have hj' : j < d'.size := by simpa using hj
    have := hs i j (by omega) hij (by omega)
    unfold G at this
    rw [getElem!_pos d' i hi', getElem!_pos d' j hj'] at this
    simpa using this
end
end Go.Dam.Stable

/-
  append onto a row of the call's own at a step of a region that draws its order. Conditions: none; nothing here names the program.
-/
namespace Go.Dam
open Go Go.RowKit Go.ChangeShapes Go.WideShapes Go.Joins Go.Deep
set_option linter.unusedVariables false
section
variable {P : Program} {w : World}
/-- append of m elements at a step of a region that draws. -/
theorem step_pushM {T E : TypeId} {z : Value} {size bytes : Nat} (el : El P T E z size bytes) {ops : Array Oper} {o : Oper} {a : Act} {K : Act → World → Prop} {Q : Exit → Act → World → Prop} {Ep : Prop} (hgd : o.guard = none) (s x : Operand)
    (ho : o.op = .call { callee := .builtin .append, args := #[s, x], argTypes := #[T, T] })
    (base : Nat) (v : Value) (n : Nat) (xs : List Value) (hown : w.ownsRow base E size v n xs) (hs : a.eval s = v)
    (ad : Addr) (m c : Nat) (news : List Value) (hx : a.eval x = .slice (some ad) m c) (hl : news.length = m * size) (hnews : ∀ j u, news[j]? = some u → w.cell? (ad.add j) = some u) (h1 : ∀ u ∈ news, u.oneCell' = true)
    (h63 : n + m ≤ 140737488355328) (hbytes : (n + m) * bytes ≤ 140737488355328) (hbase : base ≤ w.heap.size)
    (h : ∀ v' w', w'.ownsRow base E size v' (n + m) (xs ++ news) → w.grownBy w' v.ownBlock → LiesOr w.heap.size v v' → K (a.put o.dst v') w') :
    if Region.wanted o (yielded ops a.tmps) = true then Oper.wp P o a w K Q else Ep := by
  have hw : Region.wanted o (yielded ops a.tmps) = true := by simp [Region.wanted, hgd]
  rw [if_pos hw]
  obtain ⟨i, hi, hz, hz1, hz2⟩ := el.info
  obtain ⟨v', w', hr, h2, h3, h4⟩ := run_append_own (P := P) w base T o.type E i z size bytes el.ht hi hz hz1 hz2 el.hz el.hs v n xs hown ad m c news hl hnews h1 (by unfold maxLen; omega) hbytes hbase
  have h5 := run_append_lies (P := P) T o.type E i z size bytes base el.ht hi hz hz1 hz2 el.hz el.hs v n xs hown ad m c news hl hnews h1 (by unfold maxLen; omega) hbytes hbase v' w' hr
  unfold Oper.wp execOp
  simp only [ho, resolve, invoke, builtin, Sem.run_bind, Sem.run_pure, Result.andThen_ok, List.map_toArray, List.map_cons, List.map_nil, hs, hx, hr]
  exact h v' w' h2 h3 h5
/-- append of one element of one cell, which lies in block g, at a step of a region that draws. -/
theorem step_pushD {T E : TypeId} {z : Value} {bytes : Nat} (el : El P T E z 1 bytes) {ops : Array Oper} {o : Oper} {a : Act} {K : Act → World → Prop} {Q : Exit → Act → World → Prop} {Ep : Prop} (hgd : o.guard = none) (s x : Operand)
    (ho : o.op = .call { callee := .builtin .append, args := #[s, x], argTypes := #[T, T] })
    (base : Nat) (v : Value) (n : Nat) (xs : List Value) (hown : w.ownsRow base E 1 v n xs) (hs : a.eval s = v)
    (g c : Nat) (u : Value) (hx : a.eval x = .slice (some ⟨g, 0, none⟩) 1 c) (hu : w.cell? ⟨g, 0, none⟩ = some u) (h1 : u.oneCell' = true)
    (h63 : n + 1 ≤ 140737488355328) (hbytes : (n + 1) * bytes ≤ 140737488355328) (hbase : base ≤ w.heap.size)
    (h : ∀ v' w', w'.ownsRow base E 1 v' (n + 1) (xs ++ [u]) → w.grownBy w' v.ownBlock → LiesOr w.heap.size v v' → K (a.put o.dst v') w') :
    if Region.wanted o (yielded ops a.tmps) = true then Oper.wp P o a w K Q else Ep := by
  refine step_pushM el hgd s x ho base v n xs hown hs ⟨g, 0, none⟩ 1 c [u] hx rfl ?_ ?_ h63 hbytes hbase h
  · intro j y hj
    cases j with
    | zero => simp at hj; subst hj; exact hu
    | succ j => simp at hj
  · intro y hy
    simp at hy; subst hy; exact h1
end
end Go.Dam
