/-
  Texts of one claim behind each other. Conditions: none of its own.
-/
import Derived.WalkKit
import Derived.ProofKit
import Derived.OpenShut
import Derived.ShutString
import Derived.ChangeOld
import Derived.Below
import Derived.Laws.OwnMore
import Derived.Deep.AppendLies
import Derived.Deep.Draws
import Derived.Laws.Rows
import Derived.Deep.Slices
import Derived.Deep.Fields
import Derived.Lib.SmallJoins
import Derived.Lib.Hide
import Derived.SizedLaws
import Derived.Laws.BitsAllLaws
import Derived.Laws.BitsLemmas
import Derived.IntWalk
import Derived.Deep.RegionLaw
import Derived.RangeFuncBox
import Derived.RangeFuncLeaves
import Derived.RangeFuncFrom
import Derived.RangeFuncWrites
import Derived.OwnWalkIn
import Derived.OrdersIn
/-
  Helper lemmas for all claims of this seat: how an argument that can be read as data lies in memory (a slice that reads as a list, a struct of plain fields), and how that reading is kept while the call makes blocks of its own. Conditions: none; nothing here names the program.
-/
namespace Go.Dam
open Go Go.RowKit Go.ChangeShapes Go.WideShapes Go.Joins Go.Deep
set_option linter.unusedVariables false

theorem block_of_add (a : Addr) (n : Nat) : (a.add n).block = a.block := by unfold Addr.add; split <;> rfl
theorem add_of_add (a : Addr) (i j : Nat) : (a.add i).add j = a.add (i + j) := by
  unfold Addr.add
  by_cases hi : i = 0 <;> by_cases hj : j = 0 <;> simp [hi, hj, Nat.add_assoc]

/-- The slice value with address A and n elements of 'size' cells each reads as the cells xs, and lies below block B. -/
def Reads (w : World) (B size : Nat) (A : Option Addr) (n : Nat) (xs : List Value) : Prop :=
  xs.length = n * size ∧ (0 < n → ∃ ad, A = some ad ∧ ad.block < B ∧ ∀ j u, xs[j]? = some u → w.cell? (ad.add j) = some u)

section
variable {w w' : World} {B B' size n : Nat} {A : Option Addr} {xs : List Value}
theorem Reads.none_ : Reads w B size A 0 [] := ⟨by simp, fun h => absurd h (by omega)⟩
theorem Reads.at_ {k : Nat} (h : Reads w B 1 A n xs) (hk : k < n) : ∃ ad u, A = some ad ∧ ad.block < B ∧ xs[k]? = some u ∧ w.cell? (ad.add k) = some u := by
  obtain ⟨ad, e, hb, hc⟩ := h.2 (by omega)
  have hl : k < xs.length := by have := h.1; omega
  exact ⟨ad, xs[k], e, hb, List.getElem?_eq_getElem hl, hc k _ (List.getElem?_eq_getElem hl)⟩
theorem cell_spot {w : World} {a : Addr} {v : Value} (h : w.cell? a = some v) : a.spot = none := by
  unfold World.cell? at h
  split at h
  · split at h
    · cases h
    · rename_i hs; simpa using hs
  · cases h
theorem Reads.addr (h : Reads w B 1 A n xs) (hn : 0 < n) : ∃ b off, A = some ⟨b, off, none⟩ ∧ b < B ∧ ∀ k, k < n → ∃ u, xs[k]? = some u ∧ w.cell? ⟨b, off + k, none⟩ = some u := by
  obtain ⟨ad, e, hb, hc⟩ := h.2 hn
  obtain ⟨b, off, sp⟩ := ad
  have key : ∀ k, k < n → ∃ u, xs[k]? = some u ∧ w.cell? ((⟨b, off, sp⟩ : Addr).add k) = some u := by
    intro k hk
    have hl : k < xs.length := by have := h.1; omega
    exact ⟨xs[k], List.getElem?_eq_getElem hl, hc k _ (List.getElem?_eq_getElem hl)⟩
  obtain ⟨u0, _, hu0⟩ := key 0 hn
  have hsp : sp = none := by simpa [Addr.add] using cell_spot hu0
  subst hsp
  refine ⟨b, off, e, hb, fun k hk => ?_⟩
  obtain ⟨u, hx, hu⟩ := key k hk
  refine ⟨u, hx, ?_⟩
  unfold Addr.add at hu
  split at hu
  · rename_i h0; subst h0; exact hu
  · exact hu
theorem Reads.keep (h : Reads w B size A n xs) (hk : ∀ p : Addr, p.block < B → w'.cell? p = w.cell? p) : Reads w' B size A n xs :=
  ⟨h.1, fun hn => by
    obtain ⟨ad, e, hb, hc⟩ := h.2 hn
    exact ⟨ad, e, hb, fun j u hu => (hk _ (by rw [block_of_add]; exact hb)).trans (hc j u hu)⟩⟩
theorem Reads.more (h : Reads w B size A n xs) (hB : B ≤ B') : Reads w B' size A n xs :=
  ⟨h.1, fun hn => by
    obtain ⟨ad, e, hb, hc⟩ := h.2 hn
    exact ⟨ad, e, by omega, hc⟩⟩
theorem Reads.below (h : Reads w B size A n xs) (hb : Below B w w') : Reads w' B size A n xs := h.keep fun _ hp => hb.cell hp
theorem Reads.drew (h : Reads w B size A n xs) : Reads w.drew B size A n xs := h
theorem Reads.drewN (h : Reads w B size A n xs) (k : Nat) : Reads (w.drewN k) B size A n xs := h
theorem Reads.alloc (h : Reads w B size A n xs) (hB : B ≤ w.heap.size) (o : Obj) : Reads (w.alloc o) B size A n xs := h.keep fun p hp => World.cell?_alloc_lt w o p (by omega)
theorem Reads.setCell (h : Reads w B size A n xs) {p : Addr} (hB : B ≤ p.block) (u : Value) : Reads (w.setCell p u) B size A n xs :=
  h.keep fun q hq => World.cell?_setCell_other w p q u (fun e => by subst e; omega)
theorem Reads.grown (h : Reads w B size A n xs) {row : Option Nat} (hg : w.grownBy w' row) (hB : B ≤ w.heap.size) (hr : ∀ g, row = some g → B ≤ g) : Reads w' B size A n xs :=
  h.keep fun p hp => World.cell?_of_block (hg.block p.block (by omega) (fun e => by have := hr _ e.symm; omega))
theorem Reads.cut (h : Reads w B size A n xs) {k cap : Nat} (hk : k ≤ n) (hc : n ≤ cap) :
    Reads w B size (if cap = k then A else A.map (·.add (k * size))) (n - k) (xs.drop (k * size)) := by
  refine ⟨by rw [List.length_drop, h.1, Nat.sub_mul], fun hn => ?_⟩
  obtain ⟨ad, rfl, hb, hcell⟩ := h.2 (by omega)
  rw [if_neg (by omega)]
  refine ⟨ad.add (k * size), rfl, by rw [block_of_add]; exact hb, fun j u hu => ?_⟩
  rw [add_of_add]
  exact hcell _ u (by rw [← hu, List.getElem?_drop])
theorem Reads.take (h : Reads w B size A n xs) {k : Nat} (hk : k ≤ n) : Reads w B size A k (xs.take (k * size)) := by
  refine ⟨by rw [List.length_take, h.1]; exact Nat.min_eq_left (Nat.mul_le_mul_right _ hk), fun hn => ?_⟩
  obtain ⟨ad, rfl, hb, hcell⟩ := h.2 (by omega)
  refine ⟨ad, rfl, hb, fun j u hu => ?_⟩
  rw [List.getElem?_take] at hu
  split at hu
  · exact hcell _ u hu
  · cases hu
theorem Reads.of_own {base : Nat} {e : TypeId} {c : Nat} (h : w.ownsRow base e size (.slice A n c) n xs) : Reads w w.heap.size size A n xs := by
  refine ⟨h.1, fun hn => ?_⟩
  obtain ⟨g, cap, hv, _, hlt⟩ := h.form hn
  have hA : A = some ⟨g, 0, none⟩ := by injection hv
  subst hA
  exact ⟨_, rfl, hlt, h.cells (g := g) rfl⟩
end

/-- Block g is just the cells cs of element type t, none frozen. -/
def Blk (w : World) (g : Nat) (t : TypeId) (cs : Array Value) : Prop := w.heap[g]? = some (.cells cs t (0, 0))
section
variable {w w' : World} {g : Nat} {t : TypeId} {cs : Array Value}
theorem Blk.lt (h : Blk w g t cs) : g < w.heap.size := by
  rcases Nat.lt_or_ge g w.heap.size with hlt | hge
  · exact hlt
  · unfold Blk at h; rw [Array.getElem?_eq_none hge] at h; cases h
theorem Blk.cell (h : Blk w g t cs) (i : Nat) : w.cell? ⟨g, i, none⟩ = cs[i]? := cell_of_row w g i cs t (0, 0) h
theorem Blk.frozen (h : Blk w g t cs) (i : Nat) : w.frozen? ⟨g, i, none⟩ = false := by
  unfold Blk at h
  simp [World.frozen?, h]
theorem Blk.new (w : World) (t : TypeId) (cs : Array Value) : Blk (w.alloc (.cells cs t)) w.heap.size t cs := heap_alloc_new w _
theorem Blk.new_at (w : World) (t : TypeId) (cs : Array Value) (g : Nat) (hg : g = w.heap.size) : Blk (w.alloc (.cells cs t)) g t cs := by subst hg; exact Blk.new w t cs
theorem Blk.drew (h : Blk w g t cs) : Blk w.drew g t cs := h
theorem Blk.drewN (h : Blk w g t cs) (n : Nat) : Blk (w.drewN n) g t cs := h
theorem Blk.alloc (h : Blk w g t cs) (o : Obj) : Blk (w.alloc o) g t cs := (Below.heap_alloc w o g h.lt).trans h
theorem Blk.set_ (h : Blk w g t cs) (i : Nat) (u : Value) : Blk (w.setCell ⟨g, i, none⟩ u) g t (cs.setIfInBounds i u) := by
  unfold Blk at h ⊢
  simp [World.setCell, Array.getElem?_modify, h]
theorem Blk.far (h : Blk w g t cs) {p : Addr} (hp : g ≠ p.block) (u : Value) : Blk (w.setCell p u) g t cs := (Below.heap_setCell w p u g hp).trans h
theorem Blk.below {B : Nat} (h : Blk w g t cs) (hb : Below B w w') (hg : g < B) : Blk w' g t cs := (hb.block g hg).trans h
theorem Blk.grown {row : Option Nat} (h : Blk w g t cs) (hb : w.grownBy w' row) (hg : some g ≠ row) : Blk w' g t cs := (hb.block g h.lt hg).trans h
theorem Blk.ne_ {g' : Nat} {t' : TypeId} {cs' : Array Value} (h : Blk w g t cs) (h' : Blk w g' t' cs') (hne : t ≠ t') : g ≠ g' := by
  rintro rfl
  unfold Blk at h h'
  rw [h] at h'
  injection h' with h'
  injection h' with _ ht
  exact hne ht
end

/-! ### From a datum's reading to 'Reads' -/
section
variable {H : Type} {enc : TypeId × Value → H} {P : Program} {w : World} {base : Nat} {spare : Nat → Bool} {held : Bool}

theorem cell_lt {w : World} {a : Addr} {v : Value} (h : w.cell? a = some v) : a.block < w.heap.size := by
  unfold World.cell? at h
  rcases Nat.lt_or_ge a.block w.heap.size with hlt | hge
  · exact hlt
  · rw [Array.getElem?_eq_none hge] at h; cases h

/-- No part of the datum is longer than the form's reach. -/
def Sized (P : Program) (t : TypeId) (d : DataW H) : Prop := ∀ n ∈ d.weights P t, n ≤ reachBytes
theorem weightsAll_mem {e : TypeId} {d : DataW H} {n : Nat} : ∀ {l : List (DataW H)}, d ∈ l → n ∈ d.weights P e → n ∈ DataW.weightsAll P e l
  | x :: l, hd, hn => by
    simp only [DataW.weightsAll, List.mem_append]
    rcases List.mem_cons.1 hd with rfl | hd
    · exact Or.inl hn
    · exact Or.inr (weightsAll_mem hd hn)
theorem Sized.field {t : TypeId} {fs : Array Field} {parts : List (DataW H)} (ht : P.underlying t = some (.struct fs)) (hz : Sized P t (.agg parts)) {j : Nat} {f : Field} {d : DataW H} (hf : fs[j]? = some f) (hd : parts[j]? = some d) : Sized P f.type d := by
  intro n hn
  refine hz n ?_
  simp only [DataW.weights, ht]
  exact DataW.weights_mem_each (by simpa using ⟨f, hf, rfl⟩) hd n hn
theorem sized_arg {ts : List TypeId} {ds : List (DataW H)} (h : (DataW.weightsEach P ts ds).all (· ≤ reachBytes) = true) {j : Nat} {t : TypeId} {d : DataW H} (ht : ts[j]? = some t) (hd : ds[j]? = some d) : Sized P t d := by
  intro n hn
  have := List.all_eq_true.1 h n (DataW.weights_mem_each ht hd n hn)
  simpa using this

/-- Whatever slice can be read as data: 'Reads', and each element's cells read as data of the element's type. -/
theorem open_reads {t e : TypeId} {s fuel : Nat} {cs : List Value} {x : DataW H × List MemPlace} (ht : P.underlying t = some (.slice e)) (hs : P.cellsOf e = s) (hs0 : 0 < s)
    (h : DataW.trod enc P w base spare held fuel t cs = some x) (hz : Sized P t x.1) :
    ∃ A n c vs, cs = [.slice A n c] ∧ n ≤ c ∧ c ≤ maxLen ∧ n * P.bytesOf e ≤ reachBytes ∧ Reads w w.heap.size s A n vs ∧
      ∀ i, i < n → ∃ f y, DataW.trod enc P w base spare held f e ((vs.drop (i * s)).take s) = some y ∧ Sized P e y.1 := by
  rcases open_slice ht h with ⟨rfl, rfl⟩ | ⟨a, len, cap, m, n, D, Pl, rfl, hb, hl, hm, hmm, hx, hi⟩
  · exact ⟨none, 0, 0, [], rfl, Nat.le_refl _, Nat.zero_le _, by simp, Reads.none_, fun i hi => absurd hi (by omega)⟩
  · have hz1 : len * P.bytesOf e ≤ reachBytes := by
      have h1 := hz ((((List.range len).map D).length + ((List.range (m - len)).map fun j => D (len + j)).length) * P.bytesOf e) (by rw [hx]; simp [DataW.weights, ht])
      refine Nat.le_trans (Nat.mul_le_mul_right _ ?_) h1
      simp
    have hz2 : ∀ i, i < len → Sized P e (D i) := by
      intro i hil n hn
      refine hz n ?_
      rw [hx]
      simp only [DataW.weights, ht, List.mem_cons, List.mem_append]
      exact Or.inr (Or.inl (weightsAll_mem (List.mem_map.2 ⟨i, List.mem_range.2 hil, rfl⟩) hn))
    rw [hs] at hi
    have hlm : len ≤ m := by rw [hmm]; split <;> omega
    let vs := (List.range (len * s)).map fun j => (w.cell? (a.add j)).getD undef
    have hvl : vs.length = len * s := by simp [vs]
    have key : ∀ i, i < len → ∃ cs', cs'.length = s ∧ (∀ j, j < s → w.cell? (a.add (i * s + j)) = cs'[j]?) ∧ DataW.trod enc P w base spare held n e cs' = some (D i, Pl i) := by
      intro i hil
      obtain ⟨cs', hc, ht'⟩ := hi i (by omega)
      obtain ⟨_, hcl, hat⟩ := World.cells?_some hc
      exact ⟨cs', hcl, fun j hj => by rw [← add_of_add]; exact hat j hj, ht'⟩
    have hcell : ∀ j, j < len * s → ∃ u, w.cell? (a.add j) = some u := by
      intro j hj
      have hq : j / s < len := by rw [Nat.div_lt_iff_lt_mul hs0]; exact hj
      have hr : j % s < s := Nat.mod_lt _ hs0
      obtain ⟨cs', hcl, hat, _⟩ := key (j / s) hq
      have := hat (j % s) hr
      rw [show j / s * s + j % s = j from by rw [Nat.mul_comm]; exact Nat.div_add_mod j s] at this
      exact ⟨cs'[j % s]'(by omega), by rw [this]; exact List.getElem?_eq_getElem (by omega)⟩
    have hvs : ∀ j, j < len * s → w.cell? (a.add j) = vs[j]? := by
      intro j hj
      obtain ⟨u, hu⟩ := hcell j hj
      simp [vs, hj, hu]
    refine ⟨some a, len, cap, vs, rfl, hl, hm, hz1, ⟨hvl, fun hn => ⟨a, rfl, ?_, fun j u hu => ?_⟩⟩, fun i hil => ⟨n, (D i, Pl i), ?_, hz2 i hil⟩⟩
    · obtain ⟨u, hu⟩ := hcell 0 (Nat.mul_pos hn hs0)
      have := cell_lt hu
      rwa [block_of_add] at this
    · have hj : j < len * s := by
        rw [← hvl]
        rcases Nat.lt_or_ge j vs.length with h | h
        · exact h
        · rw [List.getElem?_eq_none h] at hu; cases hu
      rw [hvs j hj, hu]
    · obtain ⟨cs', hcl, hat, ht'⟩ := key i hil
      rw [← ht']
      congr 1
      have hle : i * s + s ≤ len * s := by
        have : (i + 1) * s ≤ len * s := Nat.mul_le_mul_right _ (by omega)
        rwa [Nat.succ_mul] at this
      apply List.ext_getElem?
      intro j
      rw [List.getElem?_take, List.getElem?_drop]
      split
      · rename_i hj
        rw [← hvs _ (by omega), hat j hj]
      · rw [List.getElem?_eq_none (by omega)]

/-- A slice of integers. -/
theorem open_list {t e : TypeId} {k : IntKind} {fuel : Nat} {cs : List Value} {x : DataW H × List MemPlace} (ht : P.underlying t = some (.slice e)) (he : P.underlying e = some (.int k)) (hs : P.cellsOf e = 1)
    (h : DataW.trod enc P w base spare held fuel t cs = some x) (hz : Sized P t x.1) :
    ∃ A n c, ∃ l : List Int, cs = [.slice A n c] ∧ n ≤ c ∧ c ≤ maxLen ∧ n * P.bytesOf e ≤ reachBytes ∧ l.length = n ∧ Reads w w.heap.size 1 A n (l.map (Value.int k)) ∧ ∀ z ∈ l, (Lit.int k z).wf = true := by
  obtain ⟨A, n, c, vs, rfl, hc, hm, hby, hr, hi⟩ := open_reads ht hs (by omega) h hz
  have hl : vs.length = n := by have := hr.1; omega
  have key : ∀ i, i < n → ∃ z, vs[i]? = some (.int k z) ∧ (Lit.int k z).wf = true := by
    intro i hin
    obtain ⟨f, y, hy, _⟩ := hi i hin
    obtain ⟨z, hz, _, hw⟩ := DataW.trod_int he hy
    have h0 : ((vs.drop (i * 1)).take 1)[0]? = vs[i]? := by simp
    rw [hz] at h0
    exact ⟨z, h0.symm, hw⟩
  refine ⟨A, n, c, vs.map intOf, rfl, hc, hm, hby, by simpa using hl, ?_, ?_⟩
  · have : (vs.map intOf).map (Value.int k) = vs := by
      apply List.ext_getElem?
      intro j
      rcases Nat.lt_or_ge j n with hj | hj
      · obtain ⟨z, hz, _⟩ := key j hj
        simp [hz, intOf]
      · rw [List.getElem?_eq_none (by simp; omega), List.getElem?_eq_none (by omega)]
    rw [this]; exact hr
  · intro z hz
    obtain ⟨j, hj, rfl⟩ := List.mem_iff_getElem.1 hz
    have hj' : j < vs.length := by simpa using hj
    obtain ⟨z, hz, hw⟩ := key j (by omega)
    rw [List.getElem?_eq_getElem hj'] at hz
    have : vs[j] = .int k z := by injection hz
    simpa [this, intOf] using hw

def boolOf : Value → Bool | .bool b => b | _ => false
/-- A slice of bools. -/
theorem open_bools {t e : TypeId} {fuel : Nat} {cs : List Value} {x : DataW H × List MemPlace} (ht : P.underlying t = some (.slice e)) (he : P.underlying e = some .bool) (hs : P.cellsOf e = 1)
    (h : DataW.trod enc P w base spare held fuel t cs = some x) (hz : Sized P t x.1) :
    ∃ A n c, ∃ l : List Bool, cs = [.slice A n c] ∧ n ≤ c ∧ c ≤ maxLen ∧ n * P.bytesOf e ≤ reachBytes ∧ l.length = n ∧ Reads w w.heap.size 1 A n (l.map Value.bool) := by
  obtain ⟨A, n, c, vs, rfl, hc, hm, hby, hr, hi⟩ := open_reads ht hs (by omega) h hz
  have hl : vs.length = n := by have := hr.1; omega
  refine ⟨A, n, c, vs.map boolOf, rfl, hc, hm, hby, by simpa using hl, ?_⟩
  have : (vs.map boolOf).map Value.bool = vs := by
    apply List.ext_getElem?
    intro j
    rcases Nat.lt_or_ge j n with hj | hj
    · obtain ⟨f, y, hy, _⟩ := hi j hj
      obtain ⟨z, hz, _⟩ := DataW.trod_bool he hy
      have h0 : ((vs.drop (j * 1)).take 1)[0]? = vs[j]? := by simp
      rw [hz] at h0
      simp [← h0, boolOf]
    · rw [List.getElem?_eq_none (by simp; omega), List.getElem?_eq_none (by omega)]
  rw [this]; exact hr

theorem wf_u64 {x : Int} (h : (Lit.int .u64 x).wf = true) : ∃ n : Nat, x = n ∧ n < 18446744073709551616 := by
  have hx : 0 ≤ x ∧ x ≤ 18446744073709551615 := by simpa [Lit.wf, IntKind.min, IntKind.max, IntKind.signed, IntKind.bits] using h
  exact ⟨x.toNat, by omega, by omega⟩
theorem wf_i64 {x : Int} (h : (Lit.int .i64 x).wf = true) : -9223372036854775808 ≤ x ∧ x ≤ 9223372036854775807 := by
  simpa [Lit.wf, IntKind.min, IntKind.max, IntKind.signed, IntKind.bits] using h
theorem wf_u8 {x : Int} (h : (Lit.int .u8 x).wf = true) : 0 ≤ x ∧ x ≤ 255 := by
  simpa [Lit.wf, IntKind.min, IntKind.max, IntKind.signed, IntKind.bits] using h

/-! ### What a walk is told of an argument -/
def IsInts (k : IntKind) (w : World) (B : Nat) (v : Value) (l : List Int) : Prop :=
  ∃ A c, v = .slice A l.length c ∧ l.length ≤ c ∧ c ≤ maxLen ∧ l.length ≤ 140737488351232 ∧ Reads w B 1 A l.length (l.map (Value.int k)) ∧ ∀ z ∈ l, (Lit.int k z).wf = true
def IsBools (w : World) (B : Nat) (v : Value) (l : List Bool) : Prop :=
  ∃ A c, v = .slice A l.length c ∧ l.length ≤ c ∧ c ≤ maxLen ∧ l.length ≤ 140737488351232 ∧ Reads w B 1 A l.length (l.map Value.bool)
/-- A slice of words, as natural numbers. -/
def wordV (n : Nat) : Value := .int .u64 n
def IsWords (w : World) (B : Nat) (v : Value) (l : List Nat) : Prop :=
  ∃ A c, v = .slice A l.length c ∧ l.length ≤ c ∧ c ≤ maxLen ∧ l.length ≤ 140737488351232 ∧ Reads w B 1 A l.length (l.map wordV) ∧ ∀ z ∈ l, z < 18446744073709551616
def I64 (x : Int) : Prop := -9223372036854775808 ≤ x ∧ x ≤ 9223372036854775807
def IsBits (w : World) (B : Nat) (v : Value) (n : Int) (l : List Nat) : Prop :=
  ∃ s, v = .agg #[.int .i64 n, s] ∧ I64 n ∧ IsWords w B s l
def IsPacked (w : World) (B : Nat) (v : Value) (n m : Int) (l : List Nat) : Prop :=
  ∃ s, v = .agg #[.int .i64 n, .int .i64 m, s] ∧ I64 n ∧ I64 m ∧ IsWords w B s l

variable {r : Reach} {b0 : Nat} {t e : TypeId} {v : Value} {d : DataW H} {ps : List MemPlace}
theorem arg_u64 (ht : P.underlying t = some (.int .u64)) (hv : Value.okWide P w r b0 t v) (h : DataW.Trod enc P w base spare held t v d ps) (hz : Sized P t d) : ∃ n : Nat, v = .int .u64 n ∧ n < 18446744073709551616 := by
  obtain ⟨x, rfl, _, _, hw⟩ := open_int ht hv h
  obtain ⟨n, rfl, hn⟩ := wf_u64 hw
  exact ⟨n, rfl, hn⟩
theorem arg_i64 (ht : P.underlying t = some (.int .i64)) (hv : Value.okWide P w r b0 t v) (h : DataW.Trod enc P w base spare held t v d ps) (hz : Sized P t d) : ∃ x : Int, v = .int .i64 x ∧ I64 x := by
  obtain ⟨x, rfl, _, _, hw⟩ := open_int ht hv h
  exact ⟨x, rfl, wf_i64 hw⟩
theorem arg_bool (ht : P.underlying t = some .bool) (hv : Value.okWide P w r b0 t v) (h : DataW.Trod enc P w base spare held t v d ps) (hz : Sized P t d) : ∃ x : Bool, v = .bool x := by
  obtain ⟨x, rfl, _, _⟩ := open_bool ht hv h
  exact ⟨x, rfl⟩
theorem arg_string (ht : P.underlying t = some .string) (hv : Value.okWide P w r b0 t v) (h : DataW.Trod enc P w base spare held t v d ps) (hz : Sized P t d) : ∃ s : ByteArray, v = .string s ∧ s.size ≤ 140737488351232 := by
  obtain ⟨x, rfl, rfl, _, hs⟩ := Go.ChangeMaps.open_string ht hv h
  have := hz x.data.toList.length (by simp [DataW.weights])
  exact ⟨x, rfl, by simpa [reachBytes] using this⟩
theorem ints_of {k : IntKind} {fuel : Nat} {x : DataW H × List MemPlace} (ht : P.underlying t = some (.slice e)) (he : P.underlying e = some (.int k)) (hs : P.cellsOf e = 1) (hby : 1 ≤ P.bytesOf e)
    (h : DataW.trod enc P w base spare held fuel t [v] = some x) (hz : Sized P t x.1) : ∃ l, IsInts k w w.heap.size v l := by
  obtain ⟨A, n, c, l, hcs, hc, hm, hb, rfl, hr, hw⟩ := open_list ht he hs h hz
  simp only [List.cons.injEq, and_true] at hcs
  have : l.length * 1 ≤ l.length * P.bytesOf e := Nat.mul_le_mul_left _ hby
  have hr2 : reachBytes = 140737488351232 := rfl
  exact ⟨l, A, c, hcs, hc, hm, by omega, hr, hw⟩
theorem arg_ints {k : IntKind} (ht : P.underlying t = some (.slice e)) (he : P.underlying e = some (.int k)) (hs : P.cellsOf e = 1) (hby : 1 ≤ P.bytesOf e) (hv : Value.okWide P w r b0 t v) (h : DataW.Trod enc P w base spare held t v d ps) (hz : Sized P t d) :
    ∃ l, IsInts k w w.heap.size v l := by
  obtain ⟨a, len, cap, rfl⟩ := okWide_slice ht hv
  obtain ⟨fuel, hf⟩ := h
  exact ints_of ht he hs hby hf hz
theorem words_of_ints {B : Nat} {l : List Int} (h : IsInts .u64 w B v l) : ∃ ws, IsWords w B v ws := by
  obtain ⟨A, c, rfl, hc, hm, hb, hr, hw⟩ := h
  refine ⟨l.map Int.toNat, A, c, by simp, by simpa using hc, hm, by simpa using hb, ?_, ?_⟩
  · have : (l.map Int.toNat).map wordV = l.map (Value.int .u64) := by
      rw [List.map_map]
      refine List.map_congr_left fun z hz => ?_
      obtain ⟨n, rfl, _⟩ := wf_u64 (hw z hz)
      rfl
    rw [this, List.length_map]; exact hr
  · intro z hz
    obtain ⟨y, hy, rfl⟩ := List.mem_map.1 hz
    obtain ⟨n, rfl, hn⟩ := wf_u64 (hw y hy)
    simpa using hn
theorem arg_words (ht : P.underlying t = some (.slice e)) (he : P.underlying e = some (.int .u64)) (hs : P.cellsOf e = 1) (hby : 1 ≤ P.bytesOf e) (hv : Value.okWide P w r b0 t v) (h : DataW.Trod enc P w base spare held t v d ps) (hz : Sized P t d) :
    ∃ l, IsWords w w.heap.size v l := by
  obtain ⟨l, hl⟩ := arg_ints ht he hs hby hv h hz
  exact words_of_ints hl
theorem arg_bools (ht : P.underlying t = some (.slice e)) (he : P.underlying e = some .bool) (hs : P.cellsOf e = 1) (hby : 1 ≤ P.bytesOf e) (hv : Value.okWide P w r b0 t v) (h : DataW.Trod enc P w base spare held t v d ps) (hz : Sized P t d) :
    ∃ l, IsBools w w.heap.size v l := by
  obtain ⟨a, len, cap, rfl⟩ := okWide_slice ht hv
  obtain ⟨fuel, hf⟩ := h
  obtain ⟨A, n, c, l, hcs, hc, hm, hb, rfl, hr⟩ := open_bools ht he hs hf hz
  simp only [Value.cells, List.cons.injEq, and_true] at hcs
  have : l.length * 1 ≤ l.length * P.bytesOf e := Nat.mul_le_mul_left _ hby
  have hr2 : reachBytes = 140737488351232 := rfl
  exact ⟨l, A, c, hcs, hc, hm, by omega, hr⟩
theorem arg_bits {f0 f1 : Field} {u : TypeId} (ht : P.underlying t = some (.struct #[f0, f1])) (h0 : P.underlying f0.type = some (.int .i64)) (h1 : P.underlying f1.type = some (.slice u)) (hu : P.underlying u = some (.int .u64)) (hs : P.cellsOf u = 1) (hby : 1 ≤ P.bytesOf u)
    (hone : oneCellFields P #[f0, f1] = true) (hC : P.cellsOf t = 2) (hv : Value.okWide P w r b0 t v) (h : DataW.Trod enc P w base spare held t v d ps) (hz : Sized P t d) :
    ∃ n l, IsBits w w.heap.size v n l := by
  obtain ⟨v0, v1, y0, y1, n, rfl, rfl, _, t0, t1⟩ := open_agg2 ht hone hC hv h
  obtain ⟨x, hx, _, hw⟩ := DataW.trod_int h0 t0
  simp only [List.cons.injEq, and_true] at hx
  subst hx
  obtain ⟨l, hl⟩ := ints_of h1 hu hs hby t1 (hz.field ht (j := 1) rfl rfl)
  obtain ⟨ws, hws⟩ := words_of_ints hl
  exact ⟨x, ws, v1, rfl, wf_i64 hw, hws⟩
theorem arg_packed {f0 f1 f2 : Field} {u : TypeId} (ht : P.underlying t = some (.struct #[f0, f1, f2])) (h0 : P.underlying f0.type = some (.int .i64)) (h0' : P.underlying f1.type = some (.int .i64)) (h1 : P.underlying f2.type = some (.slice u)) (hu : P.underlying u = some (.int .u64)) (hs : P.cellsOf u = 1) (hby : 1 ≤ P.bytesOf u)
    (hone : oneCellFields P #[f0, f1, f2] = true) (hC : P.cellsOf t = 3) (hv : Value.okWide P w r b0 t v) (h : DataW.Trod enc P w base spare held t v d ps) (hz : Sized P t d) :
    ∃ n m l, IsPacked w w.heap.size v n m l := by
  obtain ⟨v0, v1, v2, y0, y1, y2, n, rfl, rfl, _, t0, t1, t2⟩ := open_agg3 ht hone hC hv h
  obtain ⟨x, hx, _, hw⟩ := DataW.trod_int h0 t0
  simp only [List.cons.injEq, and_true] at hx
  subst hx
  obtain ⟨z, hz', _, hw'⟩ := DataW.trod_int h0' t1
  simp only [List.cons.injEq, and_true] at hz'
  subst hz'
  obtain ⟨l, hl⟩ := ints_of h1 hu hs hby t2 (hz.field ht (j := 2) rfl rfl)
  obtain ⟨ws, hws⟩ := words_of_ints hl
  exact ⟨x, z, ws, v2, rfl, wf_i64 hw, wf_i64 hw', hws⟩
end
section
variable {k : IntKind} {w w' : World} {B B' : Nat} {v : Value} {l : List Int} {ws : List Nat} {lb : List Bool}
theorem IsInts.below (h : IsInts k w B v l) (hb : Below B w w') : IsInts k w' B v l := by
  obtain ⟨A, c, rfl, h1, h2, h5, h3, h4⟩ := h
  exact ⟨A, c, rfl, h1, h2, h5, h3.below hb, h4⟩
theorem IsWords.below (h : IsWords w B v ws) (hb : Below B w w') : IsWords w' B v ws := by
  obtain ⟨A, c, rfl, h1, h2, h5, h3, h4⟩ := h
  exact ⟨A, c, rfl, h1, h2, h5, h3.below hb, h4⟩
theorem IsBools.below (h : IsBools w B v lb) (hb : Below B w w') : IsBools w' B v lb := by
  obtain ⟨A, c, rfl, h1, h2, h5, h3⟩ := h
  exact ⟨A, c, rfl, h1, h2, h5, h3.below hb⟩
theorem IsInts.more (h : IsInts k w B v l) (hB : B ≤ B') : IsInts k w B' v l := by
  obtain ⟨A, c, rfl, h1, h2, h5, h3, h4⟩ := h
  exact ⟨A, c, rfl, h1, h2, h5, h3.more hB, h4⟩
theorem IsWords.more (h : IsWords w B v ws) (hB : B ≤ B') : IsWords w B' v ws := by
  obtain ⟨A, c, rfl, h1, h2, h5, h3, h4⟩ := h
  exact ⟨A, c, rfl, h1, h2, h5, h3.more hB, h4⟩
theorem IsBits.below {n : Int} (h : IsBits w B v n ws) (hb : Below B w w') : IsBits w' B v n ws := by
  obtain ⟨s, rfl, h1, h2⟩ := h
  exact ⟨s, rfl, h1, h2.below hb⟩
theorem IsBits.more {n : Int} (h : IsBits w B v n ws) (hB : B ≤ B') : IsBits w B' v n ws := by
  obtain ⟨s, rfl, h1, h2⟩ := h
  exact ⟨s, rfl, h1, h2.more hB⟩
theorem IsPacked.below {n m : Int} (h : IsPacked w B v n m ws) (hb : Below B w w') : IsPacked w' B v n m ws := by
  obtain ⟨s, rfl, h1, h1', h2⟩ := h
  exact ⟨s, rfl, h1, h1', h2.below hb⟩
end

/-! ### append of one element onto a row of the call's own -/
/-- What the program's tables say of a slice type T and its element type E. -/
structure El (P : Program) (T E : TypeId) (z : Value) (size bytes : Nat) : Prop where
  ht : P.underlying T = some (.slice E)
  hi : (P.info? E).map (fun i => (i.zero, i.size, i.bytes)) = some (some z, size, bytes)
  hz : z.cells.size = size
  hs : 0 < size
section
variable {P : Program} {w : World}
theorem El.info {T E : TypeId} {z : Value} {size bytes : Nat} (h : El P T E z size bytes) : ∃ i, P.info? E = some i ∧ i.zero = some z ∧ i.size = size ∧ i.bytes = bytes := by
  have := h.hi
  cases hi : P.info? E with
  | none => rw [hi] at this; simp at this
  | some i =>
    rw [hi] at this
    simp at this
    exact ⟨i, rfl, this.1, this.2.1, this.2.2⟩
/-- append(s, x), x one element of one cell: it lies in the new block g. -/
theorem wpList_push {T E : TypeId} {z : Value} {bytes : Nat} (el : El P T E z 1 bytes) {ops : Array Oper} {rest : List Oper} {o : Oper} {a : Act} {Q : Exit → Act → World → Prop} (hgd : o.guard = none) (s x : Operand)
    (ho : o.op = .call { callee := .builtin .append, args := #[s, x], argTypes := #[T, T] })
    (base : Nat) (v : Value) (n : Nat) (xs : List Value) (hown : w.ownsRow base E 1 v n xs) (hs : a.eval s = v)
    (g c : Nat) (u : Value) (hx : a.eval x = .slice (some ⟨g, 0, none⟩) 1 c) (hu : w.cell? ⟨g, 0, none⟩ = some u) (h1 : u.oneCell' = true)
    (h63 : n + 1 ≤ 140737488355328) (hbytes : (n + 1) * bytes ≤ 140737488355328) (hbase : base ≤ w.heap.size)
    (h : ∀ v' w', w'.ownsRow base E 1 v' (n + 1) (xs ++ [u]) → w.grownBy w' v.ownBlock → wpList P ops Q rest (a.put o.dst v') w') : wpList P ops Q (o :: rest) a w := by
  obtain ⟨i, hi, hz, hz1, hz2⟩ := el.info
  refine wpList_append_own w hgd s x T ho base E i z 1 bytes el.ht hi hz hz1 hz2 el.hz (by omega) v n xs hs hown ⟨g, 0, none⟩ 1 c [u] hx rfl ?_ ?_ (by unfold maxLen; omega) hbytes hbase fun v' w' h2 h3 _ => h v' w' h2 h3
  · intro j y hj
    cases j with
    | zero => simp at hj; subst hj; exact hu
    | succ j => simp at hj
  · intro y hy
    simp at hy; subst hy; exact h1
/-- What is kept below B over such an append. -/
theorem below_push {B : Nat} {w0 w w' : World} {base : Nat} {E : TypeId} {size n : Nat} {v : Value} {xs : List Value} (hb : Below B w0 w) (hown : w.ownsRow base E size v n xs) (hB : B ≤ base) (hz : B ≤ w.heap.size) (hg : w.grownBy w' v.ownBlock) : Below B w0 w' :=
  hb.grown hg hz fun k hk => Nat.le_trans hB (hown.lt k hk).1
theorem own_bools {base E n : Nat} {v : Value} {l : List Bool} (h : w.ownsRow base E 1 v n (l.map Value.bool)) (hn : l.length ≤ 140737488351232) : IsBools w w.heap.size v l := by
  have hl : l.length = n := by have := h.1; simpa using this
  subst hl
  rcases h.2 with ⟨rfl, h0⟩ | ⟨g, cap, cur, rfl, _, _, hnc, hcm, _⟩
  · exact ⟨none, 0, by rw [h0], by omega, by omega, hn, h.1, fun hp => absurd hp (by omega)⟩
  · exact ⟨_, cap, rfl, hnc, hcm, hn, Reads.of_own h⟩
theorem own_ints {k : IntKind} {base E n : Nat} {v : Value} {l : List Int} (h : w.ownsRow base E 1 v n (l.map (Value.int k))) (hn : l.length ≤ 140737488351232) (hw : ∀ z ∈ l, (Lit.int k z).wf = true) : IsInts k w w.heap.size v l := by
  have hl : l.length = n := by have := h.1; simpa using this
  subst hl
  rcases h.2 with ⟨rfl, h0⟩ | ⟨g, cap, cur, rfl, _, _, hnc, hcm, _⟩
  · exact ⟨none, 0, by rw [h0], by omega, by omega, hn, ⟨h.1, fun hp => absurd hp (by omega)⟩, hw⟩
  · exact ⟨_, cap, rfl, hnc, hcm, hn, Reads.of_own h, hw⟩
theorem own_words {base E n : Nat} {v : Value} {l : List Nat} (h : w.ownsRow base E 1 v n (l.map wordV)) (hn : l.length ≤ 140737488351232) (hw : ∀ z ∈ l, z < 18446744073709551616) : IsWords w w.heap.size v l := by
  have hl : l.length = n := by have := h.1; simpa using this
  subst hl
  rcases h.2 with ⟨rfl, h0⟩ | ⟨g, cap, cur, rfl, _, _, hnc, hcm, _⟩
  · exact ⟨none, 0, by rw [h0], by omega, by omega, hn, ⟨h.1, fun hp => absurd hp (by omega)⟩, hw⟩
  · exact ⟨_, cap, rfl, hnc, hcm, hn, Reads.of_own h, hw⟩
theorem bools_at {B : Nat} {A : Option Addr} {l : List Bool} (hr : Reads w B 1 A l.length (l.map Value.bool)) (hn : 0 < l.length) :
    ∃ b off, A = some ⟨b, off, none⟩ ∧ b < B ∧ ∀ k, k < l.length → w.cell? ⟨b, off + k, none⟩ = some (.bool (l.getD k false)) := by
  obtain ⟨b, off, e, hb, hc⟩ := hr.addr hn
  refine ⟨b, off, e, hb, fun k hk => ?_⟩
  obtain ⟨u, hx, hu⟩ := hc k hk
  rw [hu, ← hx]
  simp [hk]
theorem ints_cells {k : IntKind} {B : Nat} {A : Option Addr} {l : List Int} (hr : Reads w B 1 A l.length (l.map (Value.int k))) (hn : 0 < l.length) :
    ∃ b off, A = some ⟨b, off, none⟩ ∧ b < B ∧ ∀ j, j < l.length → w.cell? ⟨b, off + j, none⟩ = some (.int k (l.getD j 0)) := by
  obtain ⟨b, off, e, hb, hc⟩ := hr.addr hn
  refine ⟨b, off, e, hb, fun j hj => ?_⟩
  obtain ⟨u, hx, hu⟩ := hc j hj
  rw [hu, ← hx]
  simp [hj]
end

/-! ### make([]T, n) -/
theorem run_make_rowN {P : Program} (t e : TypeId) (i : TypeInfo) (z : Value) (ht : P.underlying t = some (.slice e)) (hi : P.info? e = some i) (hz : i.zero = some z)
    (kl kc : IntKind) (n c : Nat) (hnc : n ≤ c) (hbytes : i.bytes * c ≤ 281474976710656) (h63 : c ≤ 9223372036854775807) (w : World) :
    (Instr.makeSlice t (.int kl (n : Int)) (.int kc (c : Int))).run P w = .ok (.slice (some ⟨w.heap.size, 0, none⟩) n c) (w.alloc (.cells (madeCells z.cells (c * i.size)) e)) := by
  have hb : (i.bytes : Int) * (c : Int) ≤ 281474976710656 := by
    have h : ((i.bytes * c : Nat) : Int) ≤ 281474976710656 := by omega
    rwa [Int.natCast_mul] at h
  have hr := run_make (P := P) w t e i z ht hi hz kl kc n c (by omega) (by omega) hb (by omega)
  simp only [Int.toNat_natCast] at hr
  exact hr
/-- make([]T, n), T one cell: a row of n zeros. -/
theorem run_make1 {P : Program} {T E : TypeId} {z : Value} {bytes : Nat} (el : El P T E z 1 bytes) (h1 : z.cells = #[z]) (x : Int) (n : Nat) (hx : x = n) (hn : bytes * n ≤ 281474976710656) (h63 : n ≤ 9223372036854775807) (w : World) :
    (Instr.makeSlice T (.int .i64 x) (.int .i64 x)).run P w = .ok (.slice (some ⟨w.heap.size, 0, none⟩) n n) (w.alloc (.cells (List.replicate n z).toArray E)) := by
  subst hx
  obtain ⟨i, hi, hz, hz1, hz2⟩ := el.info
  rw [run_make_rowN T E i z el.ht hi hz .i64 .i64 n n (Nat.le_refl _) (by rw [hz2]; exact hn) h63 w, hz1, h1]
  congr 3
  have : madeCells #[z] (n * 1) = (List.replicate n z).toArray := by
    unfold madeCells
    apply Array.ext
    · simp
    · intro j h1 h2
      have : j % 1 = 0 := Nat.mod_one j
      simp [this]
  rw [this]
theorem own_shape {w : World} {base : Nat} {e : TypeId} {size n : Nat} {v : Value} {xs : List Value} (h : w.ownsRow base e size v n xs) : ∃ A c, v = .slice A n c := by
  rcases ownsRow_forms h with ⟨rfl, rfl⟩ | ⟨g, cap, rfl⟩
  · exact ⟨_, _, rfl⟩
  · exact ⟨_, _, rfl⟩
theorem own_ne {w : World} {base k : Nat} {e : TypeId} {size n : Nat} {v : Value} {xs : List Value} (h : w.ownsRow base e size v n xs) (hk : k < base) : v.ownBlock ≠ some k := fun e => by
  have := (h.lt k e).1; omega
end Go.Dam

/-
  Plain arithmetic on words of 64 bits, no program in sight: how many bits are set (by halves, as math/bits counts them), and a word turned round. Conditions: each word is below 2 to the 64th.
-/
namespace Go.Dam
set_option linter.unusedVariables false
open Go

/-- How many of the bits below place i are set. -/
def cnt (n : Nat) : Nat → Nat
  | 0 => 0
  | i + 1 => cnt n i + n / 2 ^ i % 2
theorem cnt_le (n i : Nat) : cnt n i ≤ i := by
  induction i with
  | zero => exact Nat.le_refl _
  | succ i ih => simp only [cnt]; have := Nat.mod_lt (n / 2 ^ i) (by omega : 0 < 2); omega
theorem cnt_mono (n : Nat) {i j : Nat} (h : i ≤ j) : cnt n i ≤ cnt n j := by
  induction j with
  | zero => simp [Nat.le_zero.1 h]
  | succ j ih =>
    rcases Nat.lt_or_ge i (j + 1) with hlt | hge
    · have := ih (by omega); simp only [cnt]; omega
    · rw [Nat.le_antisymm h hge]; exact Nat.le_refl _
theorem div_pow_add (n i j : Nat) : n / 2 ^ (i + j) = n / 2 ^ i / 2 ^ j := by rw [Nat.pow_add, Nat.div_div_eq_div_mul]
theorem cnt_add (n i j : Nat) : cnt n (i + j) = cnt n i + cnt (n / 2 ^ i) j := by
  induction j with
  | zero => simp [cnt]
  | succ j ih =>
    show cnt n (i + j) + n / 2 ^ (i + j) % 2 = _
    rw [ih, div_pow_add]; simp only [cnt]; omega
theorem cnt_mod (n : Nat) {i j : Nat} (h : i ≤ j) : cnt (n % 2 ^ j) i = cnt n i := by
  induction i with
  | zero => rfl
  | succ i ih =>
    simp only [cnt]
    rw [ih (by omega)]
    have : n % 2 ^ j / 2 ^ i % 2 = n / 2 ^ i % 2 := by
      have h1 : (n % 2 ^ j).testBit i = n.testBit i := by rw [Nat.testBit_mod_two_pow]; simp; intro; omega
      simp only [Nat.testBit, Nat.shiftRight_eq_div_pow, Nat.one_and_eq_mod_two] at h1
      have a := Nat.mod_two_eq_zero_or_one (n % 2 ^ j / 2 ^ i)
      have b := Nat.mod_two_eq_zero_or_one (n / 2 ^ i)
      rcases a with a | a <;> rcases b with b | b <;> simp [a, b] at h1 ⊢
    rw [this]
theorem cnt_zero (i : Nat) : cnt 0 i = 0 := by
  induction i with
  | zero => rfl
  | succ i ih => simp [cnt, ih]

/-- '&' part by part. -/
theorem and_parts (k a b c d : Nat) (ha : a < 2 ^ k) (hc : c < 2 ^ k) : (a + 2 ^ k * b) &&& (c + 2 ^ k * d) = (a &&& c) + 2 ^ k * (b &&& d) := by
  have hac : (a &&& c) < 2 ^ k := Nat.and_lt_two_pow _ hc
  apply Nat.eq_of_testBit_eq
  intro i
  rw [Nat.testBit_and, Nat.add_comm a, Nat.add_comm c, Nat.add_comm (a &&& c), Nat.testBit_two_pow_mul_add _ ha, Nat.testBit_two_pow_mul_add _ hc, Nat.testBit_two_pow_mul_add _ hac]
  split <;> simp [Nat.testBit_and]

/-! ### math/bits.OnesCount64's steps -/
def oc1 (n : Nat) : Nat := (n / 2 &&& 6148914691236517205) + (n &&& 6148914691236517205)
def oc2 (n : Nat) : Nat := (n / 4 &&& 3689348814741910323) + (n &&& 3689348814741910323)
def oc3 (n : Nat) : Nat := (n / 16 + n) &&& 1085102592571150095
def oc4 (n : Nat) : Nat := n + n / 256
def oc5 (n : Nat) : Nat := n + n / 65536
def oc6 (n : Nat) : Nat := n + n / 4294967296


def rep (d : Nat) : Nat → Nat
  | 0 => 0
  | m + 1 => d + 256 * rep d m
/-- Each byte is put through f. -/
def bytewise (f : Nat → Nat) : Nat → Nat → Nat
  | 0, _ => 0
  | m + 1, n => f (n % 256) + 256 * bytewise f m (n / 256)
theorem bytewise_comp (f g : Nat → Nat) (hg : ∀ b, b < 256 → g b < 256) (m n : Nat) : bytewise f m (bytewise g m n) = bytewise (fun b => f (g b)) m n := by
  induction m generalizing n with
  | zero => rfl
  | succ m ih =>
    have hb := hg (n % 256) (Nat.mod_lt _ (by omega))
    simp only [bytewise]
    rw [show (g (n % 256) + 256 * bytewise g m (n / 256)) % 256 = g (n % 256) from by omega, show (g (n % 256) + 256 * bytewise g m (n / 256)) / 256 = bytewise g m (n / 256) from by omega, ih]
theorem bytewise_congr {f g : Nat → Nat} (h : ∀ b, b < 256 → f b = g b) (m n : Nat) : bytewise f m n = bytewise g m n := by
  induction m generalizing n with
  | zero => rfl
  | succ m ih => simp only [bytewise]; rw [h _ (Nat.mod_lt _ (by omega)), ih]
theorem low85 : ∀ r < 256, ∀ b < 2, (r / 2 + 128 * b) &&& 85 = r / 2 &&& 85 := by decide +kernel
theorem low51 : ∀ r < 256, ∀ b < 4, (r / 4 + 64 * b) &&& 51 = r / 4 &&& 51 := by decide +kernel
theorem oc1_bytes (m n : Nat) : (n / 2 &&& rep 85 m) + (n &&& rep 85 m) = bytewise (fun b => (b / 2 &&& 85) + (b &&& 85)) m n := by
  induction m generalizing n with
  | zero => simp [rep, bytewise]
  | succ m ih =>
    simp only [rep, bytewise]
    rw [← ih (n / 256)]
    have h1 : n &&& (85 + 256 * rep 85 m) = (n % 256 &&& 85) + 256 * (n / 256 &&& rep 85 m) := by
      have := and_parts 8 (n % 256) (n / 256) 85 (rep 85 m) (Nat.mod_lt _ (by omega)) (by omega)
      rwa [show n % 256 + 2 ^ 8 * (n / 256) = n from by omega] at this
    have h2 : n / 2 &&& (85 + 256 * rep 85 m) = (n % 256 / 2 &&& 85) + 256 * (n / 256 / 2 &&& rep 85 m) := by
      have := and_parts 8 (n % 256 / 2 + 128 * (n / 256 % 2)) (n / 256 / 2) 85 (rep 85 m) (by omega) (by omega)
      rw [low85 _ (Nat.mod_lt _ (by omega)) _ (Nat.mod_lt _ (by omega))] at this
      rwa [show n % 256 / 2 + 128 * (n / 256 % 2) + 2 ^ 8 * (n / 256 / 2) = n / 2 from by omega] at this
    rw [h1, h2]; omega
theorem oc2_bytes (m n : Nat) : (n / 4 &&& rep 51 m) + (n &&& rep 51 m) = bytewise (fun b => (b / 4 &&& 51) + (b &&& 51)) m n := by
  induction m generalizing n with
  | zero => simp [rep, bytewise]
  | succ m ih =>
    simp only [rep, bytewise]
    rw [← ih (n / 256)]
    have h1 : n &&& (51 + 256 * rep 51 m) = (n % 256 &&& 51) + 256 * (n / 256 &&& rep 51 m) := by
      have := and_parts 8 (n % 256) (n / 256) 51 (rep 51 m) (Nat.mod_lt _ (by omega)) (by omega)
      rwa [show n % 256 + 2 ^ 8 * (n / 256) = n from by omega] at this
    have h2 : n / 4 &&& (51 + 256 * rep 51 m) = (n % 256 / 4 &&& 51) + 256 * (n / 256 / 4 &&& rep 51 m) := by
      have := and_parts 8 (n % 256 / 4 + 64 * (n / 256 % 4)) (n / 256 / 4) 51 (rep 51 m) (by omega) (by omega)
      rw [low51 _ (Nat.mod_lt _ (by omega)) _ (Nat.mod_lt _ (by omega))] at this
      rwa [show n % 256 / 4 + 64 * (n / 256 % 4) + 2 ^ 8 * (n / 256 / 4) = n / 4 from by omega] at this
    rw [h1, h2]; omega
theorem oc3_bytes (f : Nat → Nat) (hf : ∀ b, b < 256 → f b ≤ 68 ∧ f b % 16 ≤ 4) (m n : Nat) : (bytewise f m n / 16 + bytewise f m n) &&& rep 15 m = bytewise (fun b => f b / 16 + f b &&& 15) m n := by
  induction m generalizing n with
  | zero => simp [rep, bytewise]
  | succ m ih =>
    have hb := hf (n % 256) (Nat.mod_lt _ (by omega))
    have hq : bytewise f m (n / 256) % 16 ≤ 4 := by
      cases m with
      | zero => simp [bytewise]
      | succ m => have := (hf (n / 256 % 256) (Nat.mod_lt _ (by omega))).2; simp only [bytewise]; omega
    simp only [rep, bytewise]
    rw [← ih (n / 256)]
    generalize hy : bytewise f m (n / 256) = q at *
    have := and_parts 8 (f (n % 256) / 16 + 16 * (q % 16) + f (n % 256)) (q / 16 + q) 15 (rep 15 m) (by omega) (by omega)
    rw [show f (n % 256) / 16 + 16 * (q % 16) + f (n % 256) + 2 ^ 8 * (q / 16 + q) = (f (n % 256) + 256 * q) / 16 + (f (n % 256) + 256 * q) from by omega] at this
    rw [show (15 + 256 * rep 15 m) = 15 + 2 ^ 8 * rep 15 m from rfl, this]
    congr 1
    rw [Nat.and_two_pow_sub_one_eq_mod _ 4, Nat.and_two_pow_sub_one_eq_mod _ 4]; omega
theorem oc_byte : ∀ b < 256, (((b / 2 &&& 85) + (b &&& 85)) / 4 &&& 51) + ((b / 2 &&& 85) + (b &&& 85) &&& 51) ≤ 68 ∧ ((((b / 2 &&& 85) + (b &&& 85)) / 4 &&& 51) + ((b / 2 &&& 85) + (b &&& 85) &&& 51)) % 16 ≤ 4 := by decide +kernel
theorem oc_byte' : ∀ b < 256, ((((b / 2 &&& 85) + (b &&& 85)) / 4 &&& 51) + ((b / 2 &&& 85) + (b &&& 85) &&& 51)) / 16 + ((((b / 2 &&& 85) + (b &&& 85)) / 4 &&& 51) + ((b / 2 &&& 85) + (b &&& 85) &&& 51)) &&& 15 = cnt b 8 := by decide +kernel
theorem oc_byte1 : ∀ b < 256, (b / 2 &&& 85) + (b &&& 85) < 256 := by decide +kernel
theorem oc123 (n : Nat) : oc3 (oc2 (oc1 n)) = bytewise (fun b => cnt b 8) 8 n := by
  have h1 : oc1 n = _ := oc1_bytes 8 n
  have h2 : oc2 (oc1 n) = _ := oc2_bytes 8 (oc1 n)
  rw [h1, bytewise_comp _ _ oc_byte1] at h2
  have h3 : oc3 (oc2 (oc1 n)) = (oc2 (oc1 n) / 16 + oc2 (oc1 n)) &&& rep 15 8 := rfl
  rw [h1, h2, oc3_bytes _ oc_byte] at h3
  rw [h1, h2, h3]
  exact bytewise_congr oc_byte' 8 n
theorem cnt_byte (n i : Nat) : cnt n (8 + i) = cnt (n % 256) 8 + cnt (n / 256) i := by
  rw [cnt_add, ← cnt_mod n (Nat.le_refl 8)]
theorem div_low (a b B : Nat) (h : a < B) : (a + B * b) / B = b := by
  rw [Nat.add_mul_div_left _ _ (by omega), Nat.div_eq_of_lt h, Nat.zero_add]
theorem half8 (p0 p1 p2 p3 p4 p5 p6 p7 : Nat) (h0 : p0 ≤ 8) (h1 : p1 ≤ 8) (h2 : p2 ≤ 8) (h3 : p3 ≤ 8) (h4 : p4 ≤ 8) (h5 : p5 ≤ 8) (h6 : p6 ≤ 8) (h7 : p7 ≤ 8) :
    p0 + 256 * (p1 + 256 * (p2 + 256 * (p3 + 256 * (p4 + 256 * (p5 + 256 * (p6 + 256 * (p7 + 256 * 0))))))) + (p0 + 256 * (p1 + 256 * (p2 + 256 * (p3 + 256 * (p4 + 256 * (p5 + 256 * (p6 + 256 * (p7 + 256 * 0)))))))) / 256 =
    (p0 + p1) + 256 * ((p1 + p2) + 256 * ((p2 + p3) + 256 * ((p3 + p4) + 256 * ((p4 + p5) + 256 * ((p5 + p6) + 256 * ((p6 + p7) + 256 * p7)))))) := by
  rw [div_low _ _ 256 (by omega)]; omega
theorem half8b (p0 p1 p2 p3 p4 p5 p6 p7 : Nat) (h0 : p0 ≤ 16) (h1 : p1 ≤ 16) (h2 : p2 ≤ 16) (h3 : p3 ≤ 16) (h4 : p4 ≤ 16) (h5 : p5 ≤ 16) (h6 : p6 ≤ 16) (h7 : p7 ≤ 16) :
    p0 + 256 * (p1 + 256 * (p2 + 256 * (p3 + 256 * (p4 + 256 * (p5 + 256 * (p6 + 256 * p7)))))) + (p0 + 256 * (p1 + 256 * (p2 + 256 * (p3 + 256 * (p4 + 256 * (p5 + 256 * (p6 + 256 * p7))))))) / 65536 =
    (p0 + p2) + 256 * ((p1 + p3) + 256 * ((p2 + p4) + 256 * ((p3 + p5) + 256 * ((p4 + p6) + 256 * ((p5 + p7) + 256 * (p6 + 256 * p7)))))) := by
  have : p0 + 256 * (p1 + 256 * (p2 + 256 * (p3 + 256 * (p4 + 256 * (p5 + 256 * (p6 + 256 * p7)))))) = (p0 + 256 * p1) + 65536 * (p2 + 256 * (p3 + 256 * (p4 + 256 * (p5 + 256 * (p6 + 256 * p7))))) := by omega
  rw [this, div_low _ _ 65536 (by omega)]; omega
theorem half8c (p0 p1 p2 p3 p4 p5 p6 p7 : Nat) (h0 : p0 ≤ 32) (h1 : p1 ≤ 32) (h2 : p2 ≤ 32) (h3 : p3 ≤ 32) (h4 : p4 ≤ 32) (h5 : p5 ≤ 32) (h6 : p6 ≤ 32) (h7 : p7 ≤ 32) :
    (p0 + 256 * (p1 + 256 * (p2 + 256 * (p3 + 256 * (p4 + 256 * (p5 + 256 * (p6 + 256 * p7)))))) + (p0 + 256 * (p1 + 256 * (p2 + 256 * (p3 + 256 * (p4 + 256 * (p5 + 256 * (p6 + 256 * p7))))))) / 4294967296) % 128 = p0 + p4 := by
  have : p0 + 256 * (p1 + 256 * (p2 + 256 * (p3 + 256 * (p4 + 256 * (p5 + 256 * (p6 + 256 * p7)))))) = (p0 + 256 * (p1 + 256 * (p2 + 256 * p3))) + 4294967296 * (p4 + 256 * (p5 + 256 * (p6 + 256 * p7))) := by omega
  rw [this, div_low _ _ 4294967296 (by omega)]; omega
theorem ones_count (n : Nat) : oc6 (oc5 (oc4 (oc3 (oc2 (oc1 n))))) % 128 = cnt n 64 := by
  have key : cnt n 64 = _ := cnt_byte n 56
  rw [show (56 : Nat) = 8 + 48 from rfl, cnt_byte, show (48 : Nat) = 8 + 40 from rfl, cnt_byte, show (40 : Nat) = 8 + 32 from rfl, cnt_byte, show (32 : Nat) = 8 + 24 from rfl, cnt_byte, show (24 : Nat) = 8 + 16 from rfl, cnt_byte,
    show (16 : Nat) = 8 + 8 from rfl, cnt_byte, show cnt (n / 256 / 256 / 256 / 256 / 256 / 256 / 256) 8 = cnt (n / 256 / 256 / 256 / 256 / 256 / 256 / 256 % 256) 8 from (cnt_mod _ (Nat.le_refl 8)).symm] at key
  rw [key, oc123]
  simp only [bytewise, oc4, oc5, oc6]
  have b0 := cnt_le (n % 256) 8
  have b1 := cnt_le (n / 256 % 256) 8
  have b2 := cnt_le (n / 256 / 256 % 256) 8
  have b3 := cnt_le (n / 256 / 256 / 256 % 256) 8
  have b4 := cnt_le (n / 256 / 256 / 256 / 256 % 256) 8
  have b5 := cnt_le (n / 256 / 256 / 256 / 256 / 256 % 256) 8
  have b6 := cnt_le (n / 256 / 256 / 256 / 256 / 256 / 256 % 256) 8
  have b7 := cnt_le (n / 256 / 256 / 256 / 256 / 256 / 256 / 256 % 256) 8
  generalize cnt (n % 256) 8 = p0 at *
  generalize cnt (n / 256 % 256) 8 = p1 at *
  generalize cnt (n / 256 / 256 % 256) 8 = p2 at *
  generalize cnt (n / 256 / 256 / 256 % 256) 8 = p3 at *
  generalize cnt (n / 256 / 256 / 256 / 256 % 256) 8 = p4 at *
  generalize cnt (n / 256 / 256 / 256 / 256 / 256 % 256) 8 = p5 at *
  generalize cnt (n / 256 / 256 / 256 / 256 / 256 / 256 % 256) 8 = p6 at *
  generalize cnt (n / 256 / 256 / 256 / 256 / 256 / 256 / 256 % 256) 8 = p7 at *
  clear key
  have e1 := half8 p0 p1 p2 p3 p4 p5 p6 p7 b0 b1 b2 b3 b4 b5 b6 b7
  rw [e1]
  clear e1
  have e2 := half8b (p0 + p1) (p1 + p2) (p2 + p3) (p3 + p4) (p4 + p5) (p5 + p6) (p6 + p7) p7 (by omega) (by omega) (by omega) (by omega) (by omega) (by omega) (by omega) (by omega)
  rw [e2]
  clear e2
  rw [half8c (p0 + p1 + (p2 + p3)) (p1 + p2 + (p3 + p4)) (p2 + p3 + (p4 + p5)) (p3 + p4 + (p5 + p6)) (p4 + p5 + (p6 + p7)) (p5 + p6 + p7) (p6 + p7) p7 (by omega) (by omega) (by omega) (by omega) (by omega) (by omega) (by omega) (by omega)]
  omega

/-! ### math/bits.Reverse64 -/
def rv (k m n : Nat) : Nat := (n / 2 ^ k &&& m) ||| ((n &&& m) * 2 ^ k)
def Swaps (k m : Nat) : Prop := ∀ i < 64, (m.testBit i = true → i ^^^ k = i + k ∧ i + k < 64 ∧ (k ≤ i → m.testBit (i - k) = false)) ∧ (m.testBit i = false → k ≤ i ∧ m.testBit (i - k) = true ∧ i ^^^ k = i - k)
theorem rv_bit {k m : Nat} (h : Swaps k m) (n i : Nat) (hi : i < 64) : (rv k m n).testBit i = n.testBit (i ^^^ k) := by
  obtain ⟨h1, h2⟩ := h i hi
  unfold rv
  rw [Nat.testBit_or, Nat.testBit_and, Nat.testBit_mul_two_pow, Nat.testBit_and, Nat.testBit_div_two_pow]
  cases hm : m.testBit i with
  | true =>
    obtain ⟨e, _, hk⟩ := h1 hm
    rw [e]
    by_cases hki : k ≤ i
    · rw [hk hki]; simp [Nat.add_comm]
    · simp [hki, Nat.add_comm]
  | false =>
    obtain ⟨hki, hm', e⟩ := h2 hm
    rw [e, hm']; simp [hki]
theorem sw1 : Swaps 1 6148914691236517205 := by unfold Swaps; decide +kernel
theorem sw2 : Swaps 2 3689348814741910323 := by unfold Swaps; decide +kernel
theorem sw4 : Swaps 4 1085102592571150095 := by unfold Swaps; decide +kernel
theorem sw8 : Swaps 8 71777214294589695 := by unfold Swaps; decide +kernel
theorem sw16 : Swaps 16 281470681808895 := by unfold Swaps; decide +kernel
theorem sw32 : Swaps 32 4294967295 := by unfold Swaps; decide +kernel
theorem xors : ∀ i < 64, ((((((i ^^^ 32) ^^^ 16) ^^^ 8) ^^^ 4) ^^^ 2) ^^^ 1) = 63 - i ∧ (i ^^^ 32) < 64 ∧ ((i ^^^ 32) ^^^ 16) < 64 ∧ (((i ^^^ 32) ^^^ 16) ^^^ 8) < 64 ∧ ((((i ^^^ 32) ^^^ 16) ^^^ 8) ^^^ 4) < 64 ∧ (((((i ^^^ 32) ^^^ 16) ^^^ 8) ^^^ 4) ^^^ 2) < 64 := by decide +kernel
def rev64 (n : Nat) : Nat := rv 32 4294967295 (rv 16 281470681808895 (rv 8 71777214294589695 (rv 4 1085102592571150095 (rv 2 3689348814741910323 (rv 1 6148914691236517205 n)))))
theorem rev64_bit (n i : Nat) (hi : i < 64) : (rev64 n).testBit i = n.testBit (63 - i) := by
  obtain ⟨e, h1, h2, h3, h4, h5⟩ := xors i hi
  unfold rev64
  rw [rv_bit sw32 _ _ hi, rv_bit sw16 _ _ h1, rv_bit sw8 _ _ h2, rv_bit sw4 _ _ h3, rv_bit sw2 _ _ h4, rv_bit sw1 _ _ h5, e]
/-- Bit by bit: the i lowest bits, the lowest one highest. -/
def turned (n : Nat) : Nat → Nat
  | 0 => 0
  | i + 1 => 2 * turned n i + n / 2 ^ i % 2
theorem turned_bit (n i j : Nat) : (turned n i).testBit j = (decide (j < i) && n.testBit (i - 1 - j)) := by
  induction i generalizing j with
  | zero => simp [turned]
  | succ i ih =>
    have hb : n / 2 ^ i % 2 < 2 ^ 1 := Nat.mod_lt _ (by omega)
    have := Nat.testBit_two_pow_mul_add (turned n i) hb j
    simp only [turned]
    rw [show 2 * turned n i = 2 ^ 1 * turned n i from rfl, this]
    by_cases hj : j < 1
    · have hj0 : j = 0 := by omega
      subst hj0
      simp [Nat.testBit, Nat.shiftRight_eq_div_pow, Nat.one_and_eq_mod_two]
    · rw [if_neg hj, ih]
      have e : i - 1 - (j - 1) = i + 1 - 1 - j := by omega
      rw [e]
      congr 1
      simp; omega
theorem turned_lt (n i : Nat) : turned n i < 2 ^ i := by
  induction i with
  | zero => simp [turned]
  | succ i ih => simp only [turned]; have := Nat.mod_lt (n / 2 ^ i) (by omega : 0 < 2); rw [Nat.pow_succ]; omega
theorem rv_lt {k m n : Nat} (hm : m * 2 ^ k < 2 ^ 64) (hm' : m < 2 ^ 64) : rv k m n < 2 ^ 64 := by
  unfold rv
  refine Nat.or_lt_two_pow (Nat.and_lt_two_pow _ hm') ?_
  have : n &&& m ≤ m := Nat.and_le_right
  exact Nat.lt_of_le_of_lt (Nat.mul_le_mul_right _ this) hm
theorem rev_turned (n : Nat) : rev64 n = turned n 64 := by
  apply Nat.eq_of_testBit_eq
  intro i
  rw [turned_bit]
  by_cases hi : i < 64
  · rw [rev64_bit _ _ hi]; simp [hi]
  · have h1 : rev64 n < 2 ^ 64 := rv_lt (by decide) (by decide)
    have h2 : rev64 n < 2 ^ i := Nat.lt_of_lt_of_le h1 (Nat.pow_le_pow_right (by omega) (by omega))
    rw [Nat.testBit_lt_two_pow h2]; simp [hi]
/-- What the bit-by-bit sum has gathered behind i rounds. -/
theorem turned_step (n i : Nat) (hi : i < 64) : 2 ^ (64 - i) * turned n i + n / 2 ^ i % 2 * 2 ^ (63 - i) = 2 ^ (64 - (i + 1)) * turned n (i + 1) := by
  simp only [turned]
  rw [show 64 - i = (63 - i) + 1 from by omega, show 64 - (i + 1) = 63 - i from by omega, Nat.pow_succ, Nat.mul_add, Nat.mul_comm (n / 2 ^ i % 2)]
  rw [Nat.mul_assoc]

/-! ### '&', '|', '^' at int, both sides not below 0 -/
theorem ofInt_i64 (a : Nat) (ha : a < 9223372036854775808) : (BitVec.ofInt 64 (a : Int)).toNat = a := by
  rw [BitVec.ofInt_natCast, BitVec.toNat_ofNat]; exact Nat.mod_eq_of_lt (by omega)
theorem i64_and_nat (a b : Nat) (ha : a < 9223372036854775808) (hb : b < 9223372036854775808) : bits .and .i64 (a : Int) (b : Int) = ((a &&& b : Nat) : Int) := by
  have hx : a &&& b < 2 ^ 63 := Nat.and_lt_two_pow _ (by omega)
  show IntKind.i64.wrap ((BitVec.ofInt 64 (a : Int) &&& BitVec.ofInt 64 (b : Int)).toNat : Int) = _
  rw [BitVec.toNat_and, ofInt_i64 a ha, ofInt_i64 b hb, IntKind.wrap_i64]
  omega
theorem i64_or_nat (a b : Nat) (ha : a < 9223372036854775808) (hb : b < 9223372036854775808) : bits .or .i64 (a : Int) (b : Int) = ((a ||| b : Nat) : Int) := by
  have hx : a ||| b < 2 ^ 63 := Nat.or_lt_two_pow (by omega) (by omega)
  show IntKind.i64.wrap ((BitVec.ofInt 64 (a : Int) ||| BitVec.ofInt 64 (b : Int)).toNat : Int) = _
  rw [BitVec.toNat_or, ofInt_i64 a ha, ofInt_i64 b hb, IntKind.wrap_i64]
  omega
theorem and_u64 (x : Int) (a m : Nat) (hx : x = (a : Nat)) (ha : a < 18446744073709551616) (hm : m < 18446744073709551616) : bits .and .u64 x (m : Int) = ((a &&& m : Nat) : Int) := by subst hx; exact u64_and_nat a m ha hm
theorem or_u64 (x y : Int) (a m : Nat) (hx : x = (a : Nat)) (hy : y = (m : Nat)) (ha : a < 18446744073709551616) (hm : m < 18446744073709551616) : bits .or .u64 x y = ((a ||| m : Nat) : Int) := by subst hx hy; exact u64_or_nat a m ha hm
theorem and_i64 (x : Int) (a m : Nat) (hx : x = (a : Nat)) (ha : a < 9223372036854775808) (hm : m < 9223372036854775808) : bits .and .i64 x (m : Int) = ((a &&& m : Nat) : Int) := by subst hx; exact i64_and_nat a m ha hm
/-- Bit i of a word. -/
theorem bit_u64 (n i : Nat) (hn : n < 18446744073709551616) : bits .and .u64 ((n : Int) / 2 ^ i) 1 = ((n / 2 ^ i % 2 : Nat) : Int) := by
  have h : n / 2 ^ i ≤ n := Nat.div_le_self _ _
  have := and_u64 ((n : Int) / 2 ^ i) (n / 2 ^ i) 1 (by simp) (by omega) (by decide)
  rw [Nat.and_one_is_mod] at this
  exact this
theorem bit_test (n i : Nat) : (((n / 2 ^ i % 2 : Nat) : Int) == 1) = n.testBit i := by
  simp only [Nat.testBit, Nat.shiftRight_eq_div_pow, Nat.one_and_eq_mod_two]
  rcases Nat.mod_two_eq_zero_or_one (n / 2 ^ i) with h | h <;> rw [h] <;> rfl
theorem wrap_u64 (x : Int) : IntKind.u64.wrap x = x % 18446744073709551616 := by simp [IntKind.wrap, IntKind.bits, IntKind.signed]
/-- The mask of the i lowest bits, as Go makes it: 1<<i - 1. -/
theorem mask_u64 (i : Nat) (hi : i ≤ 64) : IntKind.u64.wrap (IntKind.u64.wrap (2 ^ i) - 1) = ((2 ^ i - 1 : Nat) : Int) := by
  rw [wrap_u64, wrap_u64]
  have h1 : 1 ≤ 2 ^ i := Nat.one_le_two_pow
  have e : ((2 : Int) ^ i) = ((2 ^ i : Nat) : Int) := by simp
  rcases Nat.lt_or_ge i 64 with h | h
  · have h2 : 2 ^ i < 2 ^ 64 := Nat.pow_lt_pow_right (by omega) h
    rw [e]; omega
  · obtain rfl : i = 64 := by omega
    decide
theorem mask_and (n i : Nat) (hn : n < 18446744073709551616) (hi : i ≤ 64) : bits .and .u64 (n : Int) (IntKind.u64.wrap (IntKind.u64.wrap (2 ^ i) - 1)) = ((n % 2 ^ i : Nat) : Int) := by
  rw [mask_u64 i hi]
  have h2 : 2 ^ i ≤ 2 ^ 64 := Nat.pow_le_pow_right (by omega) hi
  have := and_u64 (n : Int) n (2 ^ i - 1) rfl hn (by omega)
  rwa [Nat.and_two_pow_sub_one_eq_mod] at this
theorem cnt_low (n i : Nat) (hi : i ≤ 64) : cnt (n % 2 ^ i) 64 = cnt n i := by
  rw [show (64 : Nat) = i + (64 - i) from by omega, cnt_add, cnt_mod n (Nat.le_refl i), Nat.div_eq_of_lt (Nat.mod_lt _ (Nat.two_pow_pos i)), cnt_zero, Nat.add_zero]
theorem mod_of_test (n i : Nat) : n / 2 ^ i % 2 = if n.testBit i then 1 else 0 := by
  simp only [Nat.testBit, Nat.shiftRight_eq_div_pow, Nat.one_and_eq_mod_two]
  rcases Nat.mod_two_eq_zero_or_one (n / 2 ^ i) with h | h <;> rw [h] <;> rfl
theorem cnt_0 (n : Nat) : cnt n 0 = 0 := rfl
theorem cnt_succ (n i : Nat) : cnt n (i + 1) = cnt n i + n / 2 ^ i % 2 := rfl
theorem turned_le (n i : Nat) (hi : i ≤ 64) : 2 ^ (64 - i) * turned n i < 18446744073709551616 := by
  have h := turned_lt n i
  have h1 : 2 ^ (64 - i) * turned n i < 2 ^ (64 - i) * 2 ^ i := Nat.mul_lt_mul_of_pos_left h (Nat.two_pow_pos _)
  rw [← Nat.pow_add, show 64 - i + i = 64 from by omega] at h1
  exact h1
theorem turned_0 (n : Nat) : turned n 0 = 0 := rfl
theorem pow_u64 (i : Nat) (hi : i < 64) : IntKind.u64.wrap (2 ^ i) = ((2 ^ i : Nat) : Int) := by
  have h2 : 2 ^ i < 2 ^ 64 := Nat.pow_lt_pow_right (by omega) hi
  have e : ((2 : Int) ^ i) = ((2 ^ i : Nat) : Int) := by simp
  rw [wrap_u64, e]
  generalize (2 ^ i : Nat) = q at *
  omega
theorem rv_facts (k m n : Nat) (K M : Int) (hK : K = 2 ^ k) (hM : M = (m : Nat)) (hn : n < 18446744073709551616) (hm : m < 18446744073709551616) (hmk : m * 2 ^ k < 18446744073709551616) :
    ∃ a b : Nat, (a : Int) ≤ M ∧ (b : Int) * K ≤ M * K ∧ (b : Int) ≤ M ∧ bits .and .u64 ((n : Int) / K) M = (a : Int) ∧ bits .and .u64 (n : Int) M = (b : Int) ∧ bits .or .u64 (a : Int) ((b : Int) * K) = ((rv k m n : Nat) : Int) ∧ rv k m n < 18446744073709551616 := by
  subst hK hM
  have hd : n / 2 ^ k ≤ n := Nat.div_le_self _ _
  have hb : n &&& m ≤ m := Nat.and_le_right
  have hbk : (n &&& m) * 2 ^ k ≤ m * 2 ^ k := Nat.mul_le_mul_right _ hb
  have ha : n / 2 ^ k &&& m ≤ m := Nat.and_le_right
  have hbk' : (((n &&& m : Nat) : Int)) * 2 ^ k ≤ (m : Int) * 2 ^ k := by
    have : (((n &&& m) * 2 ^ k : Nat) : Int) ≤ ((m * 2 ^ k : Nat) : Int) := by omega
    simpa using this
  refine ⟨n / 2 ^ k &&& m, n &&& m, by omega, hbk', by omega, and_u64 _ (n / 2 ^ k) m (by simp) (by omega) hm, and_u64 _ n m rfl hn hm, ?_, rv_lt (by omega) (by omega)⟩
  unfold rv
  exact or_u64 _ _ _ _ rfl (by simp) (by omega) (by omega)
theorem rv_last (n2 : Nat) (h2 : n2 < 18446744073709551616) : bits .or .u64 ((n2 : Int) / 4294967296) (IntKind.u64.wrap ((n2 : Int) * 4294967296)) = ((rv 32 4294967295 n2 : Nat) : Int) := by
  rw [wrap_u64]
  have e : ((n2 : Int) * 4294967296) % 18446744073709551616 = ((n2 &&& 4294967295 : Nat) : Int) * 4294967296 := by
    rw [show (4294967295 : Nat) = 2 ^ 32 - 1 from rfl, Nat.and_two_pow_sub_one_eq_mod]; omega
  rw [e]
  unfold rv
  have e4 : n2 / 2 ^ 32 &&& 4294967295 = n2 / 2 ^ 32 := by
    rw [show (4294967295 : Nat) = 2 ^ 32 - 1 from rfl, Nat.and_two_pow_sub_one_eq_mod]; omega
  rw [e4]
  have hb : n2 &&& 4294967295 ≤ 4294967295 := Nat.and_le_right
  exact or_u64 _ _ _ _ (by omega) (by omega) (by omega) (by omega)
theorem rev64_eq (n : Nat) : rev64 n = rv 32 4294967295 (rv 16 281470681808895 (rv 8 71777214294589695 (rv 4 1085102592571150095 (rv 2 3689348814741910323 (rv 1 6148914691236517205 n))))) := rfl
attribute [irreducible] cnt turned rev64 rv
end Go.Dam

/-
  Plain laws of rises in a list: the piles of patience, and the length of the longest rise that ends at each place; no program in sight. Conditions: none.
-/
namespace Go.Dam
set_option linter.unusedVariables false
/-- The greatest of L[k], k < m, with f k < x; or 0. -/
def bestTo (f : Nat → Int) (L : List Nat) (x : Int) : Nat → Nat
  | 0 => 0
  | k + 1 => if f k < x ∧ bestTo f L x k < L.getD k 0 then L.getD k 0 else bestTo f L x k
/-- The lengths of the rises that end at the first n places. -/
def lensTo (f : Nat → Int) : Nat → List Nat
  | 0 => []
  | i + 1 => lensTo f i ++ [bestTo f (lensTo f i) (f i) i + 1]
theorem bestTo_0 (f : Nat → Int) (L : List Nat) (x : Int) : bestTo f L x 0 = 0 := rfl
theorem bestTo_yes {f : Nat → Int} {L : List Nat} {x : Int} {k : Nat} (h : f k < x) (g : bestTo f L x k < L.getD k 0) : bestTo f L x (k + 1) = L.getD k 0 := by rw [bestTo, if_pos ⟨h, g⟩]
theorem bestTo_no1 {f : Nat → Int} {L : List Nat} {x : Int} {k : Nat} (h : ¬ f k < x) : bestTo f L x (k + 1) = bestTo f L x k := by rw [bestTo, if_neg (fun e => h e.1)]
theorem bestTo_no2 {f : Nat → Int} {L : List Nat} {x : Int} {k : Nat} (h : ¬ bestTo f L x k < L.getD k 0) : bestTo f L x (k + 1) = bestTo f L x k := by rw [bestTo, if_neg (fun e => h e.2)]
theorem bestTo_ge {f : Nat → Int} {L : List Nat} {x : Int} : ∀ {m k : Nat}, k < m → f k < x → L.getD k 0 ≤ bestTo f L x m
  | m + 1, k, hk, hx => by
    rcases Nat.lt_or_ge k m with h | h
    · have := bestTo_ge (L := L) h hx
      rw [bestTo]; split
      · rename_i g; omega
      · exact this
    · obtain rfl : k = m := by omega
      rw [bestTo]; split
      · exact Nat.le_refl _
      · rename_i g
        have : ¬ bestTo f L x k < L.getD k 0 := fun e => g ⟨hx, e⟩
        omega
theorem bestTo_le {f : Nat → Int} {L : List Nat} {x : Int} {b : Nat} : ∀ {m : Nat}, (∀ k, k < m → f k < x → L.getD k 0 ≤ b) → bestTo f L x m ≤ b
  | 0, _ => Nat.zero_le _
  | m + 1, h => by
    have ih := bestTo_le (m := m) (f := f) (L := L) (x := x) (b := b) fun k hk hx => h k (by omega) hx
    rw [bestTo]; split
    · rename_i g; exact h m (by omega) g.1
    · exact ih
theorem lensTo_0 (f : Nat → Int) : lensTo f 0 = [] := rfl
theorem lensTo_succ (f : Nat → Int) (i : Nat) : lensTo f (i + 1) = lensTo f i ++ [bestTo f (lensTo f i) (f i) i + 1] := rfl
theorem lensTo_length (f : Nat → Int) : ∀ n, (lensTo f n).length = n
  | 0 => rfl
  | n + 1 => by rw [lensTo_succ, List.length_append, lensTo_length f n]; rfl
theorem lensTo_old {f : Nat → Int} {n i : Nat} (h : i < n) : (lensTo f (n + 1)).getD i 0 = (lensTo f n).getD i 0 := by
  rw [lensTo_succ, List.getD_eq_getElem?_getD, List.getElem?_append_left (by rw [lensTo_length]; exact h), ← List.getD_eq_getElem?_getD]
theorem lensTo_new (f : Nat → Int) (n : Nat) : (lensTo f (n + 1)).getD n 0 = bestTo f (lensTo f n) (f n) n + 1 := by
  rw [lensTo_succ, List.getD_eq_getElem?_getD, List.getElem?_append_right (by rw [lensTo_length]; exact Nat.le_refl _), lensTo_length, Nat.sub_self]; rfl
theorem lensTo_le {f : Nat → Int} : ∀ {n i : Nat}, i < n → 1 ≤ (lensTo f n).getD i 0 ∧ (lensTo f n).getD i 0 ≤ i + 1
  | n + 1, i, hi => by
    rcases Nat.lt_or_ge i n with h | h
    · rw [lensTo_old h]; exact lensTo_le h
    · obtain rfl : i = n := by omega
      rw [lensTo_new]
      have : bestTo f (lensTo f i) (f i) i ≤ i := bestTo_le fun k hk _ => by have := (lensTo_le (f := f) hk).2; omega
      omega
attribute [irreducible] bestTo lensTo
/-- A pile's last place. -/
def topP (p : List Nat) : Nat := p.getLastD 0
theorem topP_snoc (p : List Nat) (i : Nat) : topP (p ++ [i]) = i := by simp [topP]
theorem topP_mem {p : List Nat} (h : p ≠ []) : topP p ∈ p := by
  rcases List.eq_nil_or_concat p with rfl | ⟨q, x, rfl⟩
  · exact absurd rfl h
  · simp [topP]
theorem topP_at {p : List Nat} (h : p ≠ []) : p.getD (p.length - 1) 0 = topP p := by
  rcases List.eq_nil_or_concat p with rfl | ⟨q, x, rfl⟩
  · exact absurd rfl h
  · simp [topP]
/-- The piles of the places below i. -/
structure Piles (f : Nat → Int) (i : Nat) (ps : List (List Nat)) : Prop where
  ne : ∀ k, k < ps.length → ps.getD k [] ≠ []
  mem : ∀ k, k < ps.length → ∀ j, j ∈ ps.getD k [] ↔ j < i ∧ (lensTo f i).getD j 0 = k + 1
  len : ∀ j, j < i → (lensTo f i).getD j 0 ≤ ps.length
  asc : ∀ k, k < ps.length → (ps.getD k []).Pairwise fun a b => a < b ∧ f b ≤ f a
  tops : ∀ k k', k < k' → k' < ps.length → f (topP (ps.getD k [])) < f (topP (ps.getD k' []))
  prev : ∀ k, k + 1 < ps.length → ∀ j ∈ ps.getD (k + 1) [], ∃ j' ∈ ps.getD k [], j' < j ∧ f j' < f j ∧ ∀ x ∈ ps.getD k [], x < j → x ≤ j'
theorem Piles.nil (f : Nat → Int) : Piles f 0 [] := ⟨fun k h => absurd h (by simp), fun k h => absurd h (by simp), fun j h => absurd h (by omega), fun k h => absurd h (by simp), fun k k' h1 h2 => absurd h2 (by simp), fun k h => absurd h (by simp)⟩
/-- Where place i goes: the first pile whose top is not below it. -/
def PlaceAt (f : Nat → Int) (i : Nat) (ps : List (List Nat)) (K : Nat) : Prop := K ≤ ps.length ∧ (∀ k, k < K → f (topP (ps.getD k [])) < f i) ∧ (K < ps.length → f i ≤ f (topP (ps.getD K [])))
theorem Piles.top_le {f : Nat → Int} {i : Nat} {ps : List (List Nat)} (h : Piles f i ps) {k : Nat} (hk : k < ps.length) {j : Nat} (hj : j ∈ ps.getD k []) : f (topP (ps.getD k [])) ≤ f j := by
  have ha := h.asc k hk
  generalize ps.getD k [] = p at hj ha
  rcases List.eq_nil_or_concat p with rfl | ⟨q, x, rfl⟩
  · simp at hj
  · rw [List.concat_eq_append] at hj ha ⊢
    rw [topP_snoc]
    rw [List.pairwise_append] at ha
    rcases List.mem_append.1 hj with h1 | h1
    · exact (ha.2.2 j h1 x (by simp)).2
    · simp at h1; rw [h1]; exact Int.le_refl _
/-- The place's length is told by the pile. -/
theorem Piles.at_ {f : Nat → Int} {i : Nat} {ps : List (List Nat)} (h : Piles f i ps) {K : Nat} (hK : PlaceAt f i ps K) : (lensTo f (i + 1)).getD i 0 = K + 1 := by
  rw [lensTo_new]
  have h1 : bestTo f (lensTo f i) (f i) i ≤ K := bestTo_le fun j hj hf => by
    have hb := lensTo_le (f := f) hj
    have hl := h.len j hj
    obtain ⟨k, hk⟩ : ∃ k, (lensTo f i).getD j 0 = k + 1 := ⟨(lensTo f i).getD j 0 - 1, by omega⟩
    have hm := (h.mem k (by omega) j).2 ⟨hj, hk⟩
    have ht := h.top_le (by omega) hm
    rw [hk]
    rcases Nat.lt_or_ge k K with h2 | h2
    · exact h2
    · exfalso
      have h3 := hK.2.2 (by omega)
      rcases Nat.lt_or_ge K k with h4 | h4
      · have := h.tops K k h4 (by omega); omega
      · obtain rfl : k = K := by omega
        omega
  have h2 : K ≤ bestTo f (lensTo f i) (f i) i := by
    rcases Nat.eq_zero_or_pos K with h0 | h0
    · omega
    · have hkl := hK.1
      have hm := topP_mem (h.ne (K - 1) (by omega))
      have hj := (h.mem (K - 1) (by omega) _).1 hm
      have := bestTo_ge (L := lensTo f i) hj.1 (hK.2.1 (K - 1) (by omega))
      omega
  omega
theorem getD_put_same {α : Type} {l : List α} {k : Nat} (h : k < l.length) (x d : α) : (l.set k x).getD k d = x := by simp [h]
theorem getD_put_ne {α : Type} {l : List α} {k j : Nat} (h : k ≠ j) (x d : α) : (l.set k x).getD j d = l.getD j d := by simp [List.getD_eq_getElem?_getD, List.getElem?_set_ne h]
theorem getD_snoc_old {α : Type} {l : List α} {j : Nat} (h : j < l.length) (x d : α) : (l ++ [x]).getD j d = l.getD j d := by
  rw [List.getD_eq_getElem?_getD, List.getElem?_append_left h, ← List.getD_eq_getElem?_getD]
theorem getD_snoc_new {α : Type} {l : List α} (x d : α) : (l ++ [x]).getD l.length d = x := by
  rw [List.getD_eq_getElem?_getD, List.getElem?_append_right (Nat.le_refl _), Nat.sub_self]; rfl
/-- Place i is put on pile K (or on a new one): told by the piles afterwards. -/
theorem Piles.put {f : Nat → Int} {i : Nat} {ps qs : List (List Nat)} (h : Piles f i ps) {K : Nat} (hK : PlaceAt f i ps K) (hl : qs.length = max ps.length (K + 1)) (hq : qs.getD K [] = ps.getD K [] ++ [i]) (ho : ∀ k, k ≠ K → qs.getD k [] = ps.getD k []) : Piles f (i + 1) qs := by
  have hat := h.at_ hK
  have hKl := hK.1
  have mem_lt : ∀ k, k < ps.length → ∀ j ∈ ps.getD k [], j < i := fun k hk j hj => ((h.mem k hk j).1 hj).1
  have hnil : ps.length ≤ K → ps.getD K [] = [] := fun hle => by rw [List.getD_eq_getElem?_getD, List.getElem?_eq_none hle]; rfl
  have hold : ∀ k, k < qs.length → k ≠ K → k < ps.length := fun k hk hne => by omega
  have hfK : ∀ j ∈ ps.getD K [], j < i ∧ f i ≤ f j := fun j hj => by
    rcases Nat.lt_or_ge K ps.length with h1 | h1
    · have := h.top_le h1 hj; have := hK.2.2 h1; exact ⟨mem_lt K h1 j hj, by omega⟩
    · rw [hnil h1] at hj; simp at hj
  refine ⟨fun k hk => ?_, fun k hk j => ?_, fun j hj => ?_, fun k hk => ?_, fun k k' h1 h2 => ?_, fun k hk j hj => ?_⟩
  · by_cases hne : k = K
    · subst hne; rw [hq]; simp
    · rw [ho k hne]; exact h.ne k (hold k hk hne)
  · by_cases hne : k = K
    · subst hne
      rw [hq, List.mem_append, List.mem_singleton]
      constructor
      · rintro (h1 | h1)
        · have hlt := (hfK j h1).1
          rw [lensTo_old hlt]
          have hkp : k < ps.length := by
            rcases Nat.lt_or_ge k ps.length with h2 | h2
            · exact h2
            · rw [hnil h2] at h1; simp at h1
          exact ⟨by omega, ((h.mem k hkp j).1 h1).2⟩
        · subst h1; exact ⟨by omega, hat⟩
      · rintro ⟨h1, h2⟩
        rcases Nat.lt_or_ge j i with h3 | h3
        · rw [lensTo_old h3] at h2
          have := h.len j h3
          exact .inl ((h.mem k (by omega) j).2 ⟨h3, h2⟩)
        · exact .inr (by omega)
    · rw [ho k hne, h.mem k (hold k hk hne)]
      constructor
      · rintro ⟨h1, h2⟩; rw [lensTo_old h1]; exact ⟨by omega, h2⟩
      · rintro ⟨h1, h2⟩
        rcases Nat.lt_or_ge j i with h3 | h3
        · rw [lensTo_old h3] at h2; exact ⟨h3, h2⟩
        · obtain rfl : j = i := by omega
          rw [hat] at h2; omega
  · rcases Nat.lt_or_ge j i with h3 | h3
    · rw [lensTo_old h3]; have := h.len j h3; omega
    · obtain rfl : j = i := by omega
      rw [hat]; omega
  · by_cases hne : k = K
    · subst hne
      rw [hq, List.pairwise_append]
      refine ⟨?_, by simp, fun a ha b hb => ?_⟩
      · rcases Nat.lt_or_ge k ps.length with h1 | h1
        · exact h.asc k h1
        · rw [hnil h1]; exact .nil
      · simp at hb; subst hb; exact hfK a ha
    · rw [ho k hne]; exact h.asc k (hold k hk hne)
  · by_cases hne : k = K
    · subst hne
      have h3 := hold k' h2 (by omega)
      rw [hq, topP_snoc, ho k' (by omega)]
      have := h.tops k k' h1 h3
      have := hK.2.2 (by omega)
      omega
    · by_cases hne' : k' = K
      · subst hne'
        rw [hq, topP_snoc, ho k hne]
        exact hK.2.1 k h1
      · rw [ho k hne, ho k' hne']
        exact h.tops k k' h1 (hold k' h2 hne')
  · by_cases hne' : k + 1 = K
    · subst hne'
      rw [hq] at hj
      rw [ho k (by omega)]
      rcases List.mem_append.1 hj with h1 | h1
      · have hkp : k + 1 < ps.length := by
          rcases Nat.lt_or_ge (k + 1) ps.length with h2 | h2
          · exact h2
          · rw [hnil h2] at h1; simp at h1
        exact h.prev k hkp j h1
      · simp at h1; subst h1
        have hkp : k < ps.length := by omega
        refine ⟨_, topP_mem (h.ne k hkp), mem_lt k hkp _ (topP_mem (h.ne k hkp)), hK.2.1 k (by omega), fun x hx _ => ?_⟩
        have ha := h.asc k hkp
        generalize ps.getD k [] = p at hx ha
        rcases List.eq_nil_or_concat p with rfl | ⟨q, y, rfl⟩
        · simp at hx
        · rw [List.concat_eq_append] at hx ha ⊢
          rw [topP_snoc]
          rw [List.pairwise_append] at ha
          rcases List.mem_append.1 hx with h4 | h4
          · have := (ha.2.2 x h4 y (by simp)).1; omega
          · simp at h4; omega
    · have hkp : k + 1 < ps.length := hold (k + 1) hk hne'
      rw [ho (k + 1) hne'] at hj
      obtain ⟨j', h1, h2, h3, h4⟩ := h.prev k hkp j hj
      by_cases hne : k = K
      · subst hne
        rw [hq]
        refine ⟨j', List.mem_append.2 (.inl h1), h2, h3, fun x hx hxj => ?_⟩
        rcases List.mem_append.1 hx with h5 | h5
        · exact h4 x h5 hxj
        · simp at h5; subst h5
          have := mem_lt (k + 1) hkp j hj; omega
      · rw [ho k hne]; exact ⟨j', h1, h2, h3, h4⟩
end Go.Dam

/-
  append onto a row of the call's own, with the word where the row lies afterwards: where it lay, or in a new block; of any number of cells. Conditions: none; nothing here names the program.
-/
namespace Go.Dam
open Go Go.RowKit Go.ChangeShapes Go.WideShapes Go.Joins Go.Deep
set_option linter.unusedVariables false
section
variable {P : Program} {w : World}
/-- The row v' lies where v lay, or in a block that is not below B. -/
def LiesOr (B : Nat) (v v' : Value) : Prop := ∀ g, v'.ownBlock = some g → v.ownBlock = some g ∨ B ≤ g
theorem run_append_lies (t ty e : TypeId) (i : TypeInfo) (z : Value) (size bytes : Nat) (base : Nat) (ht : P.underlying t = some (.slice e)) (hi : P.info? e = some i) (hz : i.zero = some z)
    (hsize : i.size = size) (hby : i.bytes = bytes) (hzs : z.cells.size = size) (hsz : 0 < size)
    (v : Value) (n : Nat) (xs : List Value) (hown : w.ownsRow base e size v n xs)
    (a : Addr) (m c : Nat) (news : List Value) (hl : news.length = m * size) (hnews : ∀ j u, news[j]? = some u → w.cell? (a.add j) = some u) (h1 : ∀ u ∈ news, u.oneCell' = true)
    (h63 : n + m ≤ maxLen) (hbytes : (n + m) * bytes ≤ 140737488355328) (hbase : base ≤ w.heap.size) (v' : Value) (w' : World)
    (hrun : (Builtin.append_ #[t, t] ty #[v, .slice (some a) m c]).run P w = .ok v' w') : LiesOr w.heap.size v v' := by
  rcases hown.2 with ⟨rfl, rfl⟩ | ⟨g, cap, cur, rfl, hbg, hg, hnc, hcm, hcs, htake⟩
  · have hx : xs = [] := List.eq_nil_of_length_eq_zero (by simpa using hown.1)
    subst hx
    obtain ⟨v2, w2, hr, h2, _⟩ := run_append_own (P := P) w w.heap.size t ty e i z size bytes ht hi hz hsize hby hzs hsz (.slice none 0 0) 0 [] (World.ownsRow_nil w w.heap.size e size) a m c news hl hnews h1 h63 hbytes (Nat.le_refl _)
    rw [hrun] at hr
    injection hr with hv hw
    subst hv
    exact fun g hg => .inr (h2.lt g hg).1
  · subst hsize
    have hsmall : n + m ≤ 9223372036854775807 := by simp only [maxLen] at h63; omega
    by_cases hroom : n + m ≤ cap
    · have hfit : n * i.size + news.length ≤ cur.size := by rw [hl, hcs, ← Nat.add_mul]; exact Nat.mul_le_mul_right _ hroom
      have hr := run_append_room (P := P) w t ty e i ht hi g n cap cur hg a m c news hl hnews h1 hroom hfit
      rw [hrun] at hr
      injection hr with hv hw
      subst hv
      exact fun k hk => .inl hk
    · have holds : ∀ j u, xs[j]? = some u → w.cell? ((⟨g, 0, none⟩ : Addr).add j) = some u := hown.cells (g := g) rfl
      have hr := run_append_grow (P := P) w t ty e i z ht hi hz ⟨g, 0, none⟩ n cap xs hown.1 holds a m c news hl hnews (by omega) (by omega) (by subst hby; exact growslice_fits (by omega) hbytes)
      rw [hrun] at hr
      injection hr with hv hw
      subst hv
      refine fun k hk => .inr ?_
      simp only [Value.ownBlock, Option.some.injEq] at hk
      omega
/-- append of m elements, with the word where the row lies. -/
theorem wpList_pushM {T E : TypeId} {z : Value} {size bytes : Nat} (el : El P T E z size bytes) {ops : Array Oper} {rest : List Oper} {o : Oper} {a : Act} {Q : Exit → Act → World → Prop} (hgd : o.guard = none) (s x : Operand)
    (ho : o.op = .call { callee := .builtin .append, args := #[s, x], argTypes := #[T, T] })
    (base : Nat) (v : Value) (n : Nat) (xs : List Value) (hown : w.ownsRow base E size v n xs) (hs : a.eval s = v)
    (ad : Addr) (m c : Nat) (news : List Value) (hx : a.eval x = .slice (some ad) m c) (hl : news.length = m * size) (hnews : ∀ j u, news[j]? = some u → w.cell? (ad.add j) = some u) (h1 : ∀ u ∈ news, u.oneCell' = true)
    (h63 : n + m ≤ 140737488355328) (hbytes : (n + m) * bytes ≤ 140737488355328) (hbase : base ≤ w.heap.size)
    (h : ∀ v' w', w'.ownsRow base E size v' (n + m) (xs ++ news) → w.grownBy w' v.ownBlock → LiesOr w.heap.size v v' → wpList P ops Q rest (a.put o.dst v') w') : wpList P ops Q (o :: rest) a w := by
  obtain ⟨i, hi, hz, hz1, hz2⟩ := el.info
  refine wpList_plain hgd fun K hK => ?_
  obtain ⟨v', w', hr, h2, h3, h4⟩ := run_append_own (P := P) w base T o.type E i z size bytes el.ht hi hz hz1 hz2 el.hz el.hs v n xs hown ad m c news hl hnews h1 (by unfold maxLen; omega) hbytes hbase
  have h5 := run_append_lies (P := P) T o.type E i z size bytes base el.ht hi hz hz1 hz2 el.hz el.hs v n xs hown ad m c news hl hnews h1 (by unfold maxLen; omega) hbytes hbase v' w' hr
  unfold Oper.wp execOp
  simp only [ho, resolve, invoke, builtin, Sem.run_bind, Sem.run_pure, Result.andThen_ok, List.map_toArray, List.map_cons, List.map_nil, hs, hx, hr]
  exact hK _ _ (h v' w' h2 h3 h5)
theorem add_zero_addr (g j : Nat) : (⟨g, 0, none⟩ : Addr).add j = ⟨g, j, none⟩ := by unfold Addr.add; split <;> simp_all
/-- append(s, x), x one element of one cell: it lies in the block g. -/
theorem wpList_pushD {T E : TypeId} {z : Value} {bytes : Nat} (el : El P T E z 1 bytes) {ops : Array Oper} {rest : List Oper} {o : Oper} {a : Act} {Q : Exit → Act → World → Prop} (hgd : o.guard = none) (s x : Operand)
    (ho : o.op = .call { callee := .builtin .append, args := #[s, x], argTypes := #[T, T] })
    (base : Nat) (v : Value) (n : Nat) (xs : List Value) (hown : w.ownsRow base E 1 v n xs) (hs : a.eval s = v)
    (g c : Nat) (u : Value) (hx : a.eval x = .slice (some ⟨g, 0, none⟩) 1 c) (hu : w.cell? ⟨g, 0, none⟩ = some u) (h1 : u.oneCell' = true)
    (h63 : n + 1 ≤ 140737488355328) (hbytes : (n + 1) * bytes ≤ 140737488355328) (hbase : base ≤ w.heap.size)
    (h : ∀ v' w', w'.ownsRow base E 1 v' (n + 1) (xs ++ [u]) → w.grownBy w' v.ownBlock → LiesOr w.heap.size v v' → wpList P ops Q rest (a.put o.dst v') w') : wpList P ops Q (o :: rest) a w := by
  refine wpList_pushM el hgd s x ho base v n xs hown hs ⟨g, 0, none⟩ 1 c [u] hx rfl ?_ ?_ h63 hbytes hbase h
  · intro j y hj
    cases j with
    | zero => simp at hj; subst hj; exact hu
    | succ j => simp at hj
  · intro y hy
    simp at hy; subst hy; exact h1
end
/-- Two rows of the call's own do not lie in one block. -/
def Apart (v u : Value) : Prop := ∀ g, v.ownBlock = some g → u.ownBlock ≠ some g
theorem Apart.symm {v u : Value} (h : Apart v u) : Apart u v := fun g h1 h2 => h g h2 h1
theorem Apart.nil (u : Value) : Apart (.slice none 0 0) u := fun g h => by cases h
theorem Apart.nil' (u : Value) : Apart u (.slice none 0 0) := fun g h h' => by cases h'
/-- A row that was appended to is still apart from another old one. -/
theorem Apart.grow {w : World} {v v' u : Value} {base : Nat} {e : TypeId} {size n : Nat} {xs : List Value} (h : Apart v u) (hl : LiesOr w.heap.size v v') (hu : w.ownsRow base e size u n xs) : Apart v' u := by
  intro g h1 h2
  rcases hl g h1 with h3 | h3
  · exact h g h3 h2
  · have := (hu.lt g h2).2; omega
/-- The other row is kept. -/
theorem Apart.kept {w w' : World} {v u : Value} {base : Nat} {e : TypeId} {size n : Nat} {xs : List Value} (h : Apart v u) (hg : w.grownBy w' v.ownBlock) (hu : w.ownsRow base e size u n xs) : w'.ownsRow base e size u n xs := by
  refine hu.kept hg ?_
  cases hb : u.ownBlock with
  | none => exact .inl rfl
  | some g => exact .inr fun e => h g e.symm hb
end Go.Dam

/-
  append onto a row of the call's own at a step of a region that draws its order. Conditions: none; nothing here names the program.
-/
namespace Go.Dam
open Go Go.RowKit Go.ChangeShapes Go.WideShapes Go.Joins Go.Deep
set_option linter.unusedVariables false
section
variable {P : Program} {w : World}
/-- append of m elements at a step of a region that draws. -/
theorem step_pushM {T E : TypeId} {z : Value} {size bytes : Nat} (el : El P T E z size bytes) {ops : Array Oper} {o : Oper} {a : Act} {K : Act → World → Prop} {Q : Exit → Act → World → Prop} {Ep : Prop} (hgd : o.guard = none) (s x : Operand)
    (ho : o.op = .call { callee := .builtin .append, args := #[s, x], argTypes := #[T, T] })
    (base : Nat) (v : Value) (n : Nat) (xs : List Value) (hown : w.ownsRow base E size v n xs) (hs : a.eval s = v)
    (ad : Addr) (m c : Nat) (news : List Value) (hx : a.eval x = .slice (some ad) m c) (hl : news.length = m * size) (hnews : ∀ j u, news[j]? = some u → w.cell? (ad.add j) = some u) (h1 : ∀ u ∈ news, u.oneCell' = true)
    (h63 : n + m ≤ 140737488355328) (hbytes : (n + m) * bytes ≤ 140737488355328) (hbase : base ≤ w.heap.size)
    (h : ∀ v' w', w'.ownsRow base E size v' (n + m) (xs ++ news) → w.grownBy w' v.ownBlock → LiesOr w.heap.size v v' → K (a.put o.dst v') w') :
    if Region.wanted o (yielded ops a.tmps) = true then Oper.wp P o a w K Q else Ep := by
  have hw : Region.wanted o (yielded ops a.tmps) = true := by simp [Region.wanted, hgd]
  rw [if_pos hw]
  obtain ⟨i, hi, hz, hz1, hz2⟩ := el.info
  obtain ⟨v', w', hr, h2, h3, h4⟩ := run_append_own (P := P) w base T o.type E i z size bytes el.ht hi hz hz1 hz2 el.hz el.hs v n xs hown ad m c news hl hnews h1 (by unfold maxLen; omega) hbytes hbase
  have h5 := run_append_lies (P := P) T o.type E i z size bytes base el.ht hi hz hz1 hz2 el.hz el.hs v n xs hown ad m c news hl hnews h1 (by unfold maxLen; omega) hbytes hbase v' w' hr
  unfold Oper.wp execOp
  simp only [ho, resolve, invoke, builtin, Sem.run_bind, Sem.run_pure, Result.andThen_ok, List.map_toArray, List.map_cons, List.map_nil, hs, hx, hr]
  exact h v' w' h2 h3 h5
/-- append of one element of one cell, which lies in block g, at a step of a region that draws. -/
theorem step_pushD {T E : TypeId} {z : Value} {bytes : Nat} (el : El P T E z 1 bytes) {ops : Array Oper} {o : Oper} {a : Act} {K : Act → World → Prop} {Q : Exit → Act → World → Prop} {Ep : Prop} (hgd : o.guard = none) (s x : Operand)
    (ho : o.op = .call { callee := .builtin .append, args := #[s, x], argTypes := #[T, T] })
    (base : Nat) (v : Value) (n : Nat) (xs : List Value) (hown : w.ownsRow base E 1 v n xs) (hs : a.eval s = v)
    (g c : Nat) (u : Value) (hx : a.eval x = .slice (some ⟨g, 0, none⟩) 1 c) (hu : w.cell? ⟨g, 0, none⟩ = some u) (h1 : u.oneCell' = true)
    (h63 : n + 1 ≤ 140737488355328) (hbytes : (n + 1) * bytes ≤ 140737488355328) (hbase : base ≤ w.heap.size)
    (h : ∀ v' w', w'.ownsRow base E 1 v' (n + 1) (xs ++ [u]) → w.grownBy w' v.ownBlock → LiesOr w.heap.size v v' → K (a.put o.dst v') w') :
    if Region.wanted o (yielded ops a.tmps) = true then Oper.wp P o a w K Q else Ep := by
  refine step_pushM el hgd s x ho base v n xs hown hs ⟨g, 0, none⟩ 1 c [u] hx rfl ?_ ?_ h63 hbytes hbase h
  · intro j y hj
    cases j with
    | zero => simp at hj; subst hj; exact hu
    | succ j => simp at hj
  · intro y hy
    simp at hy; subst hy; exact h1
end
end Go.Dam

/-
  A range over a function whose rounds come in a known order: the body is asked, at round k, for what the iterator hands over at round k alone. Conditions: no round leaves the loop; nothing here names the program. (Its steps are those of the library's laws on ranges over a function, turned to numbered rounds.)
-/
namespace Go.Dam
open Go Go.RowKit
set_option linter.unusedVariables false
/-- Nothing below n₀ has turned, but for the block e. -/
structure BelowBut (n₀ e : Nat) (W W' : World) : Prop where
  os : W'.os = W.os
  tape : W'.tape = W.tape
  output : W'.output = W.output
  size : W.heap.size ≤ W'.heap.size
  block : ∀ i, i < n₀ → i ≠ e → W'.heap[i]? = W.heap[i]?
theorem BelowBut.refl (n₀ e : Nat) (W : World) : BelowBut n₀ e W W := ⟨rfl, rfl, rfl, Nat.le_refl _, fun _ _ _ => rfl⟩
theorem BelowBut.trans {n₀ e : Nat} {A B C : World} (h : BelowBut n₀ e A B) (k : BelowBut n₀ e B C) : BelowBut n₀ e A C :=
  ⟨k.os.trans h.os, k.tape.trans h.tape, k.output.trans h.output, Nat.le_trans h.size k.size, fun i hi he => (k.block i hi he).trans (h.block i hi he)⟩
theorem BelowBut.of_below {n₀ e : Nat} {A B : World} (h : Below n₀ A B) : BelowBut n₀ e A B := ⟨h.os, h.tape, h.output, h.size, fun i hi _ => h.block i hi⟩
theorem BelowBut.below {n₀ e : Nat} {A B : World} (h : BelowBut n₀ e A B) {m : Nat} (hm : m ≤ n₀) (he : m ≤ e) : Below m A B := ⟨h.os, h.tape, h.output, h.size, fun i hi => h.block i (by omega) (by omega)⟩
theorem BelowBut.cell {n₀ e : Nat} {A B : World} (h : BelowBut n₀ e A B) {p : Addr} (hp : p.block < n₀) (he : p.block ≠ e) : B.cell? p = A.cell? p := World.cell?_of_block (w := A) (h.block p.block hp he)
theorem BelowBut.setCell {n₀ e : Nat} {A B : World} (h : BelowBut n₀ e A B) (u : Value) (o : Nat) : BelowBut n₀ e A (B.setCell ⟨e, o, none⟩ u) :=
  h.trans ⟨rfl, rfl, rfl, by simp [World.setCell], fun i _ he => Below.heap_setCell _ _ _ _ he⟩
theorem BelowBut.alloc {n₀ e : Nat} {A B : World} (h : BelowBut n₀ e A B) (hz : n₀ ≤ B.heap.size) (o : Obj) : BelowBut n₀ e A (B.alloc o) := h.trans (.of_below ((Below.refl _ _).alloc hz o))
theorem BelowBut.own {β : Type} {n₀ e : Nat} {w₀ : World} {B : Nat} (hn : n₀ ≤ w₀.heap.size) (hB : n₀ ≤ B) : OwnFrom B (fun (_ : β) W => BelowBut n₀ e w₀ W) :=
  fun s W W' row hs hg hr => hs.trans ⟨hg.os, hg.tape, hg.output, hg.size, fun i hi _ => hg.block i (by have := hs.size; omega) (fun e' => by have := (hr i e'.symm).1; omega)⟩
theorem BelowBut.put {n₀ e : Nat} {w : World} (hn : n₀ ≤ w.heap.size) (W : World) (l : Nat) (o o' : Obj) (hl : w.heap.size ≤ l) (h : W.heap[l]? = some o) (h1 : o.isCells = false) (h2 : o.isWalk = false) : BelowBut n₀ e W (W.putObj l o') := .of_below (belowK_b hn W l o o' hl h h1 h2)
/-- What a round leaves behind. -/
def StepPost (B n₀ e : Nat) (I : Nat → World → Prop) (k : Nat) (W : World) : Exit → Act → World → Prop
  | .normal, _, W' => KeepsFrom B W W' ∧ BelowBut n₀ e W W' ∧ I (k + 1) W'
  | _, _, _ => False
/-- The iterator's contract: m rounds, the k-th with enc k. -/
def SeqSteps (F : Fence) (n : Nat) (P : Program) (g : Nat) (lb : Array Value) (enc : Nat → Array Value) (m n₀ eB : Nat) (w : World) : Prop :=
  ∀ (l : Nat) (J : Nat → World → Prop) (W : World), Below w.heap.size w W → AbidesFrom W.heap.size J →
    (∀ k W1, k < m → J k W1 → YieldAt F (n - 1) P l (enc k) W1 fun e W' => e = .returned (.bool true) ∧ J (k + 1) W' ∧ BelowBut n₀ eB W1 W') →
    J 0 W → CallsIn F n P g (#[.func (.yield l) #[] #[]] ++ lb) W fun e W' => (∃ v, e = .returned v) ∧ J m W'
theorem wpIn_rangeFunc_steps {F : Fence} {n : Nat} {P : Program} {g : Operand} {ps : Array Tmp} {assign body : Code} {Q : Exit → Act → World → Prop} {a : Act} {w : World}
    (hro : F.round = none) (h1 : 1 ≤ n) {gf : Nat} {lb : Array Value} (hg : a.eval g = .func (.func gf) #[] lb) (hFg : F.fn gf) (eg : ∀ args w, (callFunc gf args).run P w = .ok (.enter gf args) w)
    {enc : Nat → Array Value} {m n₀ eB : Nat} {w0 : World} (hseq : SeqSteps F (n - 1) P gf lb enc m n₀ eB w0) (hn₀ : n₀ ≤ w.heap.size) (hb0 : Below w0.heap.size w0 w) (hps : ∀ k, (enc k).size = ps.size)
    (I : Nat → World → Prop) (hI : OwnFrom w.heap.size I) (h0 : I 0 w) (I' : Act → Nat → World → Prop) (hI' : ∀ a', OwnFrom w.heap.size (I' a'))
    (hassign : ∀ (l : Nat) (k : Nat) (W : World) (K : Act → World → Prop), k < m → I k W → (∀ a' W', KeepsFrom w.heap.size W W' → BelowBut n₀ eB W W' → I' a' k W' → K a' W') →
      assign.wpIn (F.inRound l) (n - 1 - 1) P (Exit.then K (fun _ _ _ => False)) { tmps := (ps.zip (enc k)).foldl (fun t (p, v) => t.setIfInBounds p v) a.tmps, defers := [] } W)
    (hbody : ∀ (l : Nat) (k : Nat) (a' : Act) (W : World), k < m → I' a' k W → body.wpIn (F.inRound l) (n - 1 - 1) P (StepPost w.heap.size n₀ eB I k W) a' W)
    (hdone : ∀ (D : Nat) (W : World), w.heap.size ≤ D → I m W → W.heap[D]? = some (.deferred (some [])) → Q .normal { a with defers := { target := .collected D, args := #[] } :: a.defers } W) :
    (Code.rangeFunc g ps assign body).wpIn F n P Q a w := by
  refine wpIn_rangeFunc ?_
  intro fn hfn
  rw [hro]
  obtain ⟨rec, hrec⟩ : ∃ rec : LoopState → Loop, rec = fun st => { state := st, pending := none, fn, tmps := a.tmps, params := ps, assign, body, defers := w.heap.size } := ⟨_, rfl⟩
  obtain ⟨W1, hW1⟩ : ∃ W1, (w.alloc (.deferred (some []))).alloc (.loop (rec .ready)) = W1 := ⟨_, rfl⟩
  have z1 : W1.heap.size = w.heap.size + 1 + 1 := by rw [← hW1]; simp
  have r1 : W1.heap[w.heap.size + 1]? = some (.loop (rec .ready)) := by
    rw [← hW1]
    have := World.alloc_heap_new (w.alloc (.deferred (some []))) (.loop (rec .ready))
    rwa [World.size_alloc] at this
  have d1 : W1.heap[w.heap.size]? = some (.deferred (some [])) := by
    rw [← hW1]; exact (Below.heap_alloc _ _ _ (by simp)).trans (World.alloc_heap_new w _)
  have i1 : I 0 W1 := by rw [← hW1]; exact hI.alloc _ (hI.alloc _ h0)
  have b1 : Below w0.heap.size w0 W1 := by
    rw [← hW1]; exact hb0.trans ((((Below.refl _ w).alloc (Nat.le_refl _) _).alloc (by simp) _).mono hb0.size)
  refine ⟨w.heap.size + 1, [{ target := .collected w.heap.size, args := #[] }], W1, { target := .fn (.func gf) lb, args := #[.func (.yield (w.heap.size + 1)) #[] #[]] }, W1, gf,
    #[.func (.yield (w.heap.size + 1)) #[] #[]] ++ lb, W1, ?_, ?_, ?_, ?_, fun _ => h1, ?_⟩
  · rw [← hW1, hrec]; exact run_enterLoop_outer _ _ _ _ _
  · simp only [resolve, hg]
    simp [go_sem]
  · intro f' hf'; simp [Target.leads] at hf'; subst hf'; exact hFg
  · simp [invoke, go_sem, eg]
  have keep : ∀ {A B : World} {row : Option Nat}, A.grownBy B row → (∀ r, row = some r → W1.heap.size ≤ r ∧ ∃ o : Obj, A.heap[r]? = some o ∧ o.isWalk = true) → ∀ {k : Nat} {o : Obj}, A.heap[k]? = some o → o.isWalk = false → B.heap[k]? = some o := fun hg' hr _ _ hk hw => (grownBy_keeps hg' (fun r e => (hr r e).2) hk hw).trans hk
  refine (hseq (w.heap.size + 1) (fun k W => I k W ∧ W.heap[w.heap.size + 1]? = some (.loop (rec .ready)) ∧ W.heap[w.heap.size]? = some (.deferred (some []))) W1 b1 ?_ ?_ ⟨i1, r1, d1⟩).mono ?_
  · rintro k A B row ⟨x1, x2, x3⟩ hg' hr
    exact ⟨hI k A B row x1 hg' (fun r e => by obtain ⟨hB, o, ho, hw⟩ := hr r e; exact ⟨by omega, o, ho, Obj.not_cells_of_walk hw⟩), keep hg' hr x2 rfl, keep hg' hr x3 rfl⟩
  · rintro k W hk ⟨x1, x2, x3⟩
    have lt2 : w.heap.size + 1 < W.heap.size := (Array.getElem?_eq_some_iff.1 x2).1
    have hy := run_yield (P := P) (args := enc k) x2 (by rw [hrec]; exact hps k)
    rw [hrec] at hy
    refine ⟨fn, _, assign, body, hy, roundIn_of_wpIn hfn (hassign _ k W _ hk x1 fun a' W' g1 g2 g3 => ?_)⟩
    have v2 := g1.same _ _ (by omega) x2 rfl
    have v3 := g1.same _ _ (Nat.le_refl _) x3 rfl
    have lt3 : w.heap.size + 1 < W'.heap.size := (Array.getElem?_eq_some_iff.1 v2).1
    refine ⟨_, run_beginRound v2 (by rw [hrec]), ?_⟩
    have y2 : (W'.putObj (w.heap.size + 1) (.loop { rec .ready with state := .busy })).heap[w.heap.size + 1]? = some (.loop { rec .ready with state := .busy }) := World.putObj_heap_same lt3
    have y3 : (W'.putObj (w.heap.size + 1) (.loop { rec .ready with state := .busy })).heap[w.heap.size]? = some (.deferred (some [])) := (World.putObj_heap_other (by omega)).trans v3
    have yb : BelowBut n₀ eB W (W'.putObj (w.heap.size + 1) (.loop { rec .ready with state := .busy })) := g2.trans (BelowBut.put hn₀ _ _ _ _ (by omega) v2 rfl rfl)
    refine wpIn_mono (hbody _ k a' _ hk ((hI' a').putObj _ g3 (by omega) v2 rfl)) ?_
    rintro e a3 W3 hp
    cases e with
    | normal =>
      obtain ⟨p1, p2, p3⟩ := hp
      have q2 := p1.same _ _ (by omega) y2 rfl
      have q3 := p1.same _ _ (Nat.le_refl _) y3 rfl
      have hr := run_endRound (P := P) none q2
      rw [hrec] at hr
      refine ⟨_, _, hr, rfl, ⟨hI.putObj _ p3 (by omega) q2 rfl, ?_, (World.putObj_heap_other (by omega)).trans q3⟩, (yb.trans p2).trans (BelowBut.put hn₀ _ _ _ _ (by omega) q2 rfl rfl)⟩
      rw [hrec]
      exact World.putObj_heap_same (Array.getElem?_eq_some_iff.1 q2).1
    | ret => exact hp.elim
    | exit id => exact hp.elim
    | goto t => exact hp.elim
    | panic ch => exact hp.elim
    | outgrown => exact hp.elim
  · rintro e W2 ⟨⟨v, rfl⟩, x1, x2, x3⟩
    have hr := run_endLoop (P := P) x2 (by rw [hrec]; simp)
    rw [hrec] at hr
    exact ⟨none, _, hr, hdone _ _ (Nat.le_refl _) (hI.putObj _ x1 (by omega) x2 rfl) ((World.putObj_heap_other (by omega)).trans x3)⟩
end Go.Dam

/-
  append of a whole row of the call's own, nil or not, onto another one. Conditions: none; nothing here names the program.
-/
namespace Go.Dam
open Go Go.RowKit Go.ChangeShapes Go.WideShapes Go.Joins Go.Deep
set_option linter.unusedVariables false
section
variable {P : Program} {w : World}
theorem wpList_pushOwn {T E : TypeId} {z : Value} {size bytes : Nat} (el : El P T E z size bytes) {ops : Array Oper} {rest : List Oper} {o : Oper} {a : Act} {Q : Exit → Act → World → Prop} (hgd : o.guard = none) (s x : Operand)
    (ho : o.op = .call { callee := .builtin .append, args := #[s, x], argTypes := #[T, T] })
    (base : Nat) (v : Value) (n : Nat) (xs : List Value) (hown : w.ownsRow base E size v n xs) (hs : a.eval s = v)
    (base' : Nat) (u : Value) (m : Nat) (ys : List Value) (hsrc : w.ownsRow base' E size u m ys) (hx : a.eval x = u) (h1 : ∀ y ∈ ys, y.oneCell' = true)
    (h63 : n + m ≤ 140737488355328) (hbytes : (n + m) * bytes ≤ 140737488355328) (hbase : base ≤ w.heap.size)
    (h : ∀ v' w', w'.ownsRow base E size v' (n + m) (xs ++ ys) → w.grownBy w' v.ownBlock → LiesOr w.heap.size v v' → wpList P ops Q rest (a.put o.dst v') w') : wpList P ops Q (o :: rest) a w := by
  rcases ownsRow_forms hsrc with ⟨rfl, rfl⟩ | ⟨g, cap, rfl⟩
  · obtain ⟨i, hi, hz, hz1, hz2⟩ := el.info
    have hy : ys = [] := List.eq_nil_of_length_eq_zero (by have := hsrc.1; simpa using this)
    subst hy
    have hr := run_append_owned_none (P := P) (w := w) base T o.type E i size el.ht hi v n xs hown
    refine wpList_plain hgd fun K hK => ?_
    unfold Oper.wp execOp
    simp only [ho, resolve, invoke, builtin, Sem.run_bind, Sem.run_pure, Result.andThen_ok, List.map_toArray, List.map_cons, List.map_nil, hs, hx, hr]
    exact hK _ _ (h v w (by simpa using hown) (World.grownBy.refl w _) fun g hg => .inl hg)
  · exact wpList_pushM el hgd s x ho base v n xs hown hs ⟨g, 0, none⟩ m cap ys hx hsrc.1 (hsrc.cells (g := g) rfl) h1 h63 hbytes hbase h
/-- append(nil, x...), x an argument: a copy in new memory. -/
theorem wpList_copyReads {T E : TypeId} {z : Value} {bytes : Nat} (el : El P T E z 1 bytes) {ops : Array Oper} {rest : List Oper} {o : Oper} {a : Act} {Q : Exit → Act → World → Prop} (hgd : o.guard = none) (s x : Operand)
    (ho : o.op = .call { callee := .builtin .append, args := #[s, x], argTypes := #[T, T] }) (hs : a.eval s = .slice none 0 0)
    (B : Nat) (A : Option Addr) (m c : Nat) (ys : List Value) (hr : Reads w B 1 A m ys) (hx : a.eval x = .slice A m c) (h1 : ∀ y ∈ ys, y.oneCell' = true)
    (h63 : m ≤ 140737488355328) (hbytes : m * bytes ≤ 140737488355328)
    (h : ∀ v' w', w'.ownsRow w.heap.size E 1 v' m ys → w.grownBy w' none → wpList P ops Q rest (a.put o.dst v') w') : wpList P ops Q (o :: rest) a w := by
  by_cases h0 : m = 0
  · subst h0
    obtain ⟨i, hi, hz, hz1, hz2⟩ := el.info
    have hy : ys = [] := List.eq_nil_of_length_eq_zero (by have := hr.1; simpa using this)
    subst hy
    have hr : (Builtin.append_ #[T, T] o.type #[.slice none 0 0, .slice A 0 c]).run P w = .ok (.slice none 0 0) w := by
      cases A <;> simp [Builtin.append_, run_underlying el.ht, sizeOf, typeInfo, hi, Builtin.lenOf, Builtin.firstCells, storeCells, loadCells, loadCellsFrom]
    refine wpList_plain hgd fun K hK => ?_
    unfold Oper.wp execOp
    simp only [ho, resolve, invoke, builtin, Sem.run_bind, Sem.run_pure, Result.andThen_ok, List.map_toArray, List.map_cons, List.map_nil, hs, hx, hr]
    exact hK _ _ (h _ w (World.ownsRow_nil _ _ _ _) (World.grownBy.refl w _))
  · obtain ⟨ad, rfl, _, hc⟩ := hr.2 (by omega)
    refine wpList_pushM el hgd s x ho w.heap.size _ 0 [] (World.ownsRow_nil _ _ _ _) hs ad m c ys hx hr.1 hc h1 (by omega) (by rw [Nat.zero_add]; exact hbytes) (Nat.le_refl _) fun v' w' k1 k2 _ => ?_
    rw [Nat.zero_add, List.nil_append] at k1
    exact h v' w' k1 k2
end
end Go.Dam

/-
  append of a row at a step of a region that draws, inside a fence. Conditions: none; nothing here names the program.
-/
namespace Go.Dam
open Go Go.RowKit Go.ChangeShapes Go.WideShapes Go.Joins Go.Deep
set_option linter.unusedVariables false
theorem stepIn_append {F : Fence} {k : Nat} {P : Program} {w : World} {T E : TypeId} {z : Value} {size bytes : Nat} (el : El P T E z size bytes) {ops : Array Oper} {o : Oper} {a : Act} {K : Act → World → Prop} {Q : Exit → Act → World → Prop} (hgd : o.guard = none) (s x : Operand)
    (ho : o.op = .call { callee := .builtin .append, args := #[s, x], argTypes := #[T, T] })
    (base : Nat) (v : Value) (n : Nat) (xs : List Value) (hown : w.ownsRow base E size v n xs) (hs : a.eval s = v)
    (ad : Addr) (m c : Nat) (news : List Value) (hx : a.eval x = .slice (some ad) m c) (hl : news.length = m * size) (hnews : ∀ j u, news[j]? = some u → w.cell? (ad.add j) = some u) (h1 : ∀ u ∈ news, u.oneCell' = true)
    (h63 : n + m ≤ 140737488355328) (hbytes : (n + m) * bytes ≤ 140737488355328) (hbase : base ≤ w.heap.size)
    (h : ∀ v' w', w'.ownsRow base E size v' (n + m) (xs ++ news) → w.grownBy w' v.ownBlock → K (a.put o.dst v') w') :
    if Region.wanted o (yielded ops a.tmps) = true then Oper.wpIn F k P o a w K Q else (∀ f, o.about P w a.eval = some f → F.fn f) ∧ K (a.put o.dst undef) w := by
  obtain ⟨i, hi, hz, hz1, hz2⟩ := el.info
  rw [if_pos (by simp [Region.wanted, hgd])]
  obtain ⟨v', w', hr, h2, h3, h4⟩ := run_append_own (P := P) w base T o.type E i z size bytes el.ht hi hz hz1 hz2 el.hz el.hs v n xs hown ad m c news hl hnews h1 (by unfold maxLen; omega) hbytes hbase
  refine ⟨by simp [Oper.about, ho, resolve, Target.leads, Sem.run_pure], ?_⟩
  rw [Oper.semAt_eq _ _ _ (by rw [ho]; intro c hc; cases hc)]
  unfold execOp
  simp only [ho, resolve, invoke, builtin, Sem.run_bind, Sem.run_pure, Result.andThen_ok, List.map_toArray, List.map_cons, List.map_nil, hs, hx, hr]
  exact h _ _ h2 h3
/-- 'out = append(out, ..)', out in a box that is older than the row: what the walk owes behind the store. -/
theorem boxed_push {W w4 : World} {n₀ B : Nat} {t e : TypeId} {v v' : Value} {k m : Nat} {xs ys : List Value} {tmp : Obj}
    (hv : Boxed W B t v) (hte : t ≠ e) (hrow : W.ownsRow n₀ e 1 v k xs) (hn₀ : n₀ ≤ W.heap.size) (hown' : w4.ownsRow n₀ e 1 v' m ys) (hgrow : (W.alloc tmp).grownBy w4 v.ownBlock) :
    Boxed w4 B t v ∧ Boxed (w4.setCell ⟨B, 0, none⟩ v') B t v' ∧ (w4.setCell ⟨B, 0, none⟩ v').ownsRow n₀ e 1 v' m ys ∧ KeepsOthers W (w4.setCell ⟨B, 0, none⟩ v') ∧ BelowBut n₀ B W (w4.setCell ⟨B, 0, none⟩ v') := by
  have hv1 : Boxed w4 B t v := (hv.alloc tmp).kept hgrow (hv.not_row hte hrow)
  refine ⟨hv1, hv1.set v', hown'.kept (grownBy_setCell' w4 B v') (.inr (hv1.not_row hte hown').symm), ?_, ?_⟩
  · refine ((KeepsOthers.alloc W tmp).trans (KeepsOthers.of_grownBy hgrow fun j o ej hj => ?_)).trans (KeepsOthers.setCell _ _ _)
    rcases (hrow.alloc tmp).2 with ⟨rfl, _⟩ | ⟨g, cap, cur, rfl, _, hgb, _⟩
    · simp [Value.ownBlock] at ej
    · obtain rfl : g = j := by simpa [Value.ownBlock] using ej
      rw [hgb] at hj; cases hj; rfl
  · exact (BelowBut.of_below (below_push ((Below.refl n₀ W).alloc hn₀ tmp) (hrow.alloc tmp) (Nat.le_refl _) (by simp; omega) hgrow)).setCell v' 0
end Go.Dam
