/-
  Texts of one claim behind each other. Conditions: none of its own.
-/
import Derived.WalkKit
import Derived.ProofKit
import Derived.OpenShut
import Derived.ShutString
import Derived.ChangeOld
import Derived.Below
import Derived.Laws.OwnMore
import Derived.Deep.AppendLies
import Derived.Deep.Draws
import Derived.Laws.Rows
import Derived.Deep.Slices
import Derived.Deep.Fields
import Derived.Lib.SmallJoins
import Derived.Lib.Hide
import Derived.SizedLaws
import Derived.Laws.BitsAllLaws
import Derived.Laws.BitsLemmas
import Derived.IntWalk
import Derived.Deep.RegionLaw
import Derived.Sort.LotA
set_option linter.unusedVariables false
set_option linter.unusedSimpArgs false
/-
  The plain law of a heap in a list (container/heap's down, Init, Pop): what is taken out is in order. Conditions: none; nothing here names the program.
-/
namespace Go.Dam.Heap
set_option linter.unusedVariables false
variable {α : Type} [Inhabited α]
def at_ (L : List α) (k : Nat) : α := L.getD k default
def sw (L : List α) (i j : Nat) : List α := (L.set i (at_ L j)).set j (at_ L i)
theorem sw_len (L : List α) (i j : Nat) : (sw L i j).length = L.length := by simp [sw]
theorem at_get {L : List α} {k : Nat} (h : k < L.length) : at_ L k = L[k] := by simp [at_, List.getD_eq_getElem?_getD, h]
theorem at_sw {L : List α} {i j : Nat} (hi : i < L.length) (hj : j < L.length) (k : Nat) : at_ (sw L i j) k = if k = j then at_ L i else if k = i then at_ L j else at_ L k := by
  unfold sw
  rw [show at_ ((L.set i (at_ L j)).set j (at_ L i)) k = (((L.set i (at_ L j)).set j (at_ L i))[k]?).getD default from by simp [at_, List.getD_eq_getElem?_getD]]
  rw [List.getElem?_set, List.getElem?_set]
  by_cases h1 : k = j
  · subst h1; simp [hj]
  · rw [if_neg (fun e => h1 e.symm), if_neg h1]
    by_cases h2 : k = i
    · subst h2; simp [hi]
    · rw [if_neg (fun e => h2 e.symm), if_neg h2]; simp [at_, List.getD_eq_getElem?_getD]
theorem sw_perm {L : List α} {i j : Nat} (hi : i < L.length) (hj : j < L.length) : (sw L i j).Perm L := by
  unfold sw
  rw [at_get hi, at_get hj]
  exact List.set_set_perm hi hj
/-- A strict order by classes. -/
structure Ord (lt : α → α → Bool) : Prop where
  asym : ∀ x y, lt x y = true → lt y x = false
  neg : ∀ x y z, lt x y = false → lt y z = false → lt x z = false
variable (lt : α → α → Bool)
/-- The child that is first. -/
def kid (n : Nat) (L : List α) (i : Nat) : Nat := if 2 * i + 2 < n ∧ lt (at_ L (2 * i + 2)) (at_ L (2 * i + 1)) = true then 2 * i + 2 else 2 * i + 1
def downF (n : Nat) : Nat → List α → Nat → List α
  | 0, L, i => L
  | f + 1, L, i => if 2 * i + 1 < n then (if lt (at_ L (kid lt n L i)) (at_ L i) = true then downF n f (sw L i (kid lt n L i)) (kid lt n L i) else L) else L
theorem downF_stop {n f : Nat} {L : List α} {i : Nat} (h : n ≤ 2 * i + 1) : downF lt n f L i = L := by
  cases f with
  | zero => rfl
  | succ f => unfold downF; rw [if_neg (by omega)]
theorem downF_halt {n f : Nat} {L : List α} {i : Nat} (h : lt (at_ L (kid lt n L i)) (at_ L i) = false) : downF lt n f L i = L := by
  cases f with
  | zero => rfl
  | succ f => unfold downF; split <;> simp [h]
theorem downF_go {n f : Nat} {L : List α} {i : Nat} (h1 : 2 * i + 1 < n) (h : lt (at_ L (kid lt n L i)) (at_ L i) = true) : downF lt n (f + 1) L i = downF lt n f (sw L i (kid lt n L i)) (kid lt n L i) := by
  rw [downF, if_pos h1, if_pos h]
theorem kid_b {n : Nat} {L : List α} {i : Nat} (h : 2 * i + 1 < n) : kid lt n L i < n ∧ 2 * i + 1 ≤ kid lt n L i ∧ kid lt n L i ≤ 2 * i + 2 := by
  unfold kid; split <;> omega
theorem downF_len {n : Nat} : ∀ (f : Nat) (L : List α) (i : Nat), (downF lt n f L i).length = L.length
  | 0, _, _ => rfl
  | f + 1, L, i => by
    unfold downF; split
    · split
      · rw [downF_len f, sw_len]
      · rfl
    · rfl
theorem downF_perm {n : Nat} : ∀ (f : Nat) (L : List α) (i : Nat), n ≤ L.length → (downF lt n f L i).Perm L
  | 0, _, _, _ => .refl _
  | f + 1, L, i, h => by
    unfold downF; split
    · rename_i h1
      have := kid_b lt (L := L) h1
      split
      · exact (downF_perm f _ _ (by rw [sw_len]; exact h)).trans (sw_perm (by omega) (by omega))
      · exact .refl _
    · exact .refl _
theorem downF_far {n : Nat} : ∀ (f : Nat) (L : List α) (i k : Nat), n ≤ L.length → n ≤ k → at_ (downF lt n f L i) k = at_ L k
  | 0, _, _, _, _, _ => rfl
  | f + 1, L, i, k, h, hk => by
    unfold downF; split
    · rename_i h1
      have := kid_b lt (L := L) h1
      split
      · rw [downF_far f _ _ k (by rw [sw_len]; exact h) hk, at_sw (by omega) (by omega), if_neg (by omega), if_neg (by omega)]
      · rfl
    · rfl
/-- From place k on no child is ahead of its parent. -/
def HeapB (n k : Nat) (L : List α) : Prop := ∀ p c, k ≤ p → c < n → (c = 2 * p + 1 ∨ c = 2 * p + 2) → lt (at_ L c) (at_ L p) = false
variable {lt}
theorem kid_least (ho : Ord lt) {n : Nat} {L : List α} {i c : Nat} (h : 2 * i + 1 < n) (hc : c < n) (hp : c = 2 * i + 1 ∨ c = 2 * i + 2) : lt (at_ L c) (at_ L (kid lt n L i)) = false := by
  have irr : ∀ x, lt x x = false := fun x => by cases hx : lt x x; rfl; have := ho.asym _ _ hx; rw [hx] at this; cases this
  unfold kid
  split
  · rename_i h1
    rcases hp with rfl | rfl
    · exact ho.asym _ _ h1.2
    · exact irr _
  · rename_i h1
    rcases hp with rfl | rfl
    · exact irr _
    · cases hx : lt (at_ L (2 * i + 2)) (at_ L (2 * i + 1))
      · rfl
      · exact absurd ⟨hc, hx⟩ h1
theorem down_heap (ho : Ord lt) {n k : Nat} : ∀ (f : Nat) (L : List α) (i : Nat), n ≤ L.length → n ≤ f + i → k ≤ i →
    (∀ p c, k ≤ p → p ≠ i → c < n → (c = 2 * p + 1 ∨ c = 2 * p + 2) → lt (at_ L c) (at_ L p) = false) →
    (∀ p c, k ≤ p → (i = 2 * p + 1 ∨ i = 2 * p + 2) → c < n → (c = 2 * i + 1 ∨ c = 2 * i + 2) → lt (at_ L c) (at_ L p) = false) →
    HeapB lt n k (downF lt n f L i)
  | 0, L, i, hn, hf, hk, h1, h2 => fun p c hp hc hpc => h1 p c hp (by omega) hc hpc
  | f + 1, L, i, hn, hf, hk, h1, h2 => by
    unfold downF
    split
    · rename_i hi
      have hb := kid_b lt (L := L) hi
      have hl : ∀ c, c < n → (c = 2 * i + 1 ∨ c = 2 * i + 2) → lt (at_ L c) (at_ L (kid lt n L i)) = false := fun c hc hp => kid_least ho hi hc hp
      generalize hj : kid lt n L i = j at *
      have hsw := fun k => at_sw (L := L) (i := i) (j := j) (by omega) (by omega) k
      split
      · rename_i hlt
        refine down_heap ho f _ j (by rw [sw_len]; exact hn) (by omega) (by omega) ?_ ?_
        · intro p c hp hpj hc hpc
          rw [hsw, hsw, if_neg hpj]
          by_cases e1 : p = i
          · subst e1
            rw [if_pos rfl]
            by_cases e2 : c = j
            · rw [if_pos e2]; exact ho.asym _ _ hlt
            · rw [if_neg e2, if_neg (by omega)]; exact hl c hc hpc
          · rw [if_neg e1]
            have e2 : c ≠ j := by omega
            rw [if_neg e2]
            by_cases e3 : c = i
            · rw [if_pos e3]
              exact h2 p j hp (by omega) (by omega) (by omega)
            · rw [if_neg e3]; exact h1 p c hp e1 hc hpc
        · intro p c hp hjp hc hcj
          have e : p = i := by omega
          subst e
          rw [hsw, hsw, if_neg (by omega : c ≠ j), if_neg (by omega : c ≠ p), if_neg (by omega : p ≠ j), if_pos rfl]
          exact h1 j c (by omega) (by omega) hc hcj
      · rename_i hlt
        intro p c hp hc hpc
        by_cases e : p = i
        · subst e
          exact ho.neg _ _ _ (hl c hc hpc) (by simpa using hlt)
        · exact h1 p c hp e hc hpc
    · intro p c hp hc hpc
      exact h1 p c hp (by omega) hc hpc
theorem heap_root (ho : Ord lt) {n : Nat} {L : List α} (h : HeapB lt n 0 L) : ∀ c, c < n → lt (at_ L c) (at_ L 0) = false := by
  intro c
  induction c using Nat.strongRecOn with
  | _ c ih =>
    intro hc
    by_cases e : c = 0
    · subst e
      cases hx : lt (at_ L 0) (at_ L 0)
      · rfl
      · have := ho.asym _ _ hx; rw [hx] at this; cases this
    · have h1 := ih ((c - 1) / 2) (by omega) (by omega)
      exact ho.neg _ _ _ (h ((c - 1) / 2) c (by omega) hc (by omega)) h1
variable (lt)
/-- heap.Init, from a place down. -/
def initF (n : Nat) : Nat → List α → List α
  | 0, L => L
  | i + 1, L => initF n i (downF lt n n L i)
variable {lt}
theorem initF_len {n : Nat} : ∀ (i : Nat) (L : List α), (initF lt n i L).length = L.length
  | 0, _ => rfl
  | i + 1, L => by rw [initF, initF_len i, downF_len]
theorem initF_perm {n : Nat} : ∀ (i : Nat) (L : List α), n ≤ L.length → (initF lt n i L).Perm L
  | 0, _, _ => .refl _
  | i + 1, L, h => (initF_perm i _ (by rw [downF_len]; exact h)).trans (downF_perm lt _ _ _ h)
theorem initF_heap (ho : Ord lt) {n : Nat} : ∀ (i : Nat) (L : List α), n ≤ L.length → HeapB lt n i L → HeapB lt n 0 (initF lt n i L)
  | 0, _, _, h => h
  | i + 1, L, hn, h => by
    rw [initF]
    refine initF_heap ho i _ (by rw [downF_len]; exact hn) (down_heap ho n L i hn (by omega) (Nat.le_refl _) ?_ ?_)
    · intro p c hp hpi hc hpc; exact h p c (by omega) hc hpc
    · intro p c hp hpi; omega
theorem init_heap (ho : Ord lt) {n : Nat} {L : List α} (hn : n ≤ L.length) : HeapB lt n 0 (initF lt n (n / 2) L) :=
  initF_heap ho _ _ hn fun p c hp hc hpc => by omega
variable (lt)
/-- heap.Pop: what is left; the first one is handed back. -/
def restF (L : List α) : List α := (downF lt (L.length - 1) (L.length - 1) (sw L 0 (L.length - 1)) 0).take (L.length - 1)
variable {lt}
theorem pop_at {L : List α} (h : 0 < L.length) : at_ (downF lt (L.length - 1) (L.length - 1) (sw L 0 (L.length - 1)) 0) (L.length - 1) = at_ L 0 := by
  rw [downF_far lt _ _ _ _ (by rw [sw_len]; omega) (Nat.le_refl _), at_sw (by omega) (by omega), if_pos rfl]
theorem restF_len (L : List α) : (restF lt L).length = L.length - 1 := by
  unfold restF; rw [List.length_take, downF_len, sw_len]; omega
theorem at_take {L : List α} {m k : Nat} (h : k < m) : at_ (L.take m) k = at_ L k := by
  simp [at_, List.getD_eq_getElem?_getD, List.getElem?_take, h]
theorem take_last {L : List α} (h : 0 < L.length) : L = L.take (L.length - 1) ++ [at_ L (L.length - 1)] := by
  rw [at_get (by omega)]
  exact (List.take_append_getElem (by omega : L.length - 1 < L.length) |>.trans (by rw [show L.length - 1 + 1 = L.length by omega, List.take_length])).symm
theorem restF_perm {L : List α} (h : 0 < L.length) : (at_ L 0 :: restF lt L).Perm L := by
  have hD : (downF lt (L.length - 1) (L.length - 1) (sw L 0 (L.length - 1)) 0).Perm L := (downF_perm lt _ _ _ (by rw [sw_len]; omega)).trans (sw_perm (by omega) (by omega))
  have hl : (downF lt (L.length - 1) (L.length - 1) (sw L 0 (L.length - 1)) 0).length = L.length := by rw [downF_len, sw_len]
  have e := take_last (L := downF lt (L.length - 1) (L.length - 1) (sw L 0 (L.length - 1)) 0) (by omega)
  rw [hl, pop_at h] at e
  refine List.Perm.trans ?_ hD
  rw [e]
  unfold restF
  exact (List.perm_append_singleton _ _).symm
theorem restF_heap (ho : Ord lt) {L : List α} (h : HeapB lt L.length 0 L) : HeapB lt (restF lt L).length 0 (restF lt L) := by
  rw [restF_len]
  intro p c hp hc hpc
  unfold restF
  rw [at_take (by omega), at_take (by omega)]
  refine down_heap ho (k := 0) _ _ _ (by rw [sw_len]; omega) (by omega) (Nat.le_refl _) ?_ ?_ p c hp hc hpc
  · intro p c hp hp0 hc hpc
    rw [at_sw (by omega) (by omega), at_sw (by omega) (by omega), if_neg (by omega), if_neg (by omega), if_neg (by omega), if_neg hp0]
    exact h p c hp (by omega) hpc
  · intro p c hp hp0; omega
variable (lt)
/-- Taken out, up to k. -/
def popsF : Nat → List α → List α
  | 0, _ => []
  | k + 1, L => if L.length = 0 then [] else at_ L 0 :: popsF k (restF lt L)
variable {lt}
theorem popsF_nil (k : Nat) {L : List α} (h : L.length = 0) : popsF lt k L = [] := by cases k <;> simp [popsF, h]
theorem popsF_cons {k : Nat} {L : List α} (h : 0 < L.length) : popsF lt (k + 1) L = at_ L 0 :: popsF lt k (restF lt L) := by rw [popsF, if_neg (by omega)]
theorem popsF_take : ∀ (k : Nat) (L : List α) (n : Nat), L.length ≤ n → popsF lt k L = (popsF lt n L).take k
  | 0, _, _, _ => by simp [popsF]
  | k + 1, L, n, hn => by
    by_cases h : L.length = 0
    · rw [popsF_nil _ h, popsF_nil _ h]; simp
    · obtain ⟨m, rfl⟩ : ∃ m, n = m + 1 := ⟨n - 1, by omega⟩
      rw [popsF_cons (by omega), popsF_cons (by omega), List.take_succ_cons, popsF_take k _ m (by rw [restF_len]; omega)]
theorem popsF_perm : ∀ (n : Nat) (L : List α), L.length ≤ n → (popsF lt n L).Perm L
  | 0, L, h => by rw [List.eq_nil_of_length_eq_zero (by omega : L.length = 0)]; simp [popsF]
  | n + 1, L, hn => by
    by_cases h : L.length = 0
    · rw [List.eq_nil_of_length_eq_zero h]; simp [popsF]
    · rw [popsF_cons (by omega)]
      exact ((popsF_perm n _ (by rw [restF_len]; omega)).cons _).trans (restF_perm (by omega))
theorem mem_at {L : List α} {x : α} (h : x ∈ L) : ∃ k, k < L.length ∧ at_ L k = x := by
  obtain ⟨k, hk, rfl⟩ := List.getElem_of_mem h
  exact ⟨k, hk, at_get hk⟩
theorem popsF_sorted (ho : Ord lt) : ∀ (n : Nat) (L : List α), L.length ≤ n → HeapB lt L.length 0 L → (popsF lt n L).Pairwise fun a b => lt b a = false
  | 0, _, _, _ => by simp [popsF]
  | n + 1, L, hn, hh => by
    by_cases h : L.length = 0
    · rw [popsF_nil _ h]; exact .nil
    · rw [popsF_cons (by omega)]
      refine List.Pairwise.cons (fun b hb => ?_) (popsF_sorted ho n _ (by rw [restF_len]; omega) (restF_heap ho hh))
      have hb1 := (popsF_perm n (restF lt L) (by rw [restF_len]; omega)).mem_iff.1 hb
      have hb2 := (restF_perm (lt := lt) (L := L) (by omega)).mem_iff.1 (List.mem_cons_of_mem _ hb1)
      obtain ⟨k, hk, rfl⟩ := mem_at hb2
      exact heap_root ho hh k hk
end Go.Dam.Heap

/-
  Helper lemmas for all claims of this seat: how an argument that can be read as data lies in memory (a slice that reads as a list, a struct of plain fields), and how that reading is kept while the call makes blocks of its own. Conditions: none; nothing here names the program.
-/
namespace Go.Dam
open Go Go.RowKit Go.ChangeShapes Go.WideShapes Go.Joins Go.Deep
set_option linter.unusedVariables false

theorem block_of_add (a : Addr) (n : Nat) : (a.add n).block = a.block := by unfold Addr.add; split <;> rfl
theorem add_of_add (a : Addr) (i j : Nat) : (a.add i).add j = a.add (i + j) := by
  unfold Addr.add
  by_cases hi : i = 0 <;> by_cases hj : j = 0 <;> simp [hi, hj, Nat.add_assoc]

/-- The slice value with address A and n elements of 'size' cells each reads as the cells xs, and lies below block B. -/
def Reads (w : World) (B size : Nat) (A : Option Addr) (n : Nat) (xs : List Value) : Prop :=
  xs.length = n * size ∧ (0 < n → ∃ ad, A = some ad ∧ ad.block < B ∧ ∀ j u, xs[j]? = some u → w.cell? (ad.add j) = some u)

section
variable {w w' : World} {B B' size n : Nat} {A : Option Addr} {xs : List Value}
theorem Reads.none_ : Reads w B size A 0 [] := ⟨by simp, fun h => absurd h (by omega)⟩
theorem Reads.at_ {k : Nat} (h : Reads w B 1 A n xs) (hk : k < n) : ∃ ad u, A = some ad ∧ ad.block < B ∧ xs[k]? = some u ∧ w.cell? (ad.add k) = some u := by
  obtain ⟨ad, e, hb, hc⟩ := h.2 (by omega)
  have hl : k < xs.length := by have := h.1; omega
  exact ⟨ad, xs[k], e, hb, List.getElem?_eq_getElem hl, hc k _ (List.getElem?_eq_getElem hl)⟩
theorem cell_spot {w : World} {a : Addr} {v : Value} (h : w.cell? a = some v) : a.spot = none := by
  unfold World.cell? at h
  split at h
  · split at h
    · cases h
    · rename_i hs; simpa using hs
  · cases h
theorem Reads.addr (h : Reads w B 1 A n xs) (hn : 0 < n) : ∃ b off, A = some ⟨b, off, none⟩ ∧ b < B ∧ ∀ k, k < n → ∃ u, xs[k]? = some u ∧ w.cell? ⟨b, off + k, none⟩ = some u := by
  obtain ⟨ad, e, hb, hc⟩ := h.2 hn
  obtain ⟨b, off, sp⟩ := ad
  have key : ∀ k, k < n → ∃ u, xs[k]? = some u ∧ w.cell? ((⟨b, off, sp⟩ : Addr).add k) = some u := by
    intro k hk
    have hl : k < xs.length := by have := h.1; omega
    exact ⟨xs[k], List.getElem?_eq_getElem hl, hc k _ (List.getElem?_eq_getElem hl)⟩
  obtain ⟨u0, _, hu0⟩ := key 0 hn
  have hsp : sp = none := by simpa [Addr.add] using cell_spot hu0
  subst hsp
  refine ⟨b, off, e, hb, fun k hk => ?_⟩
  obtain ⟨u, hx, hu⟩ := key k hk
  refine ⟨u, hx, ?_⟩
  unfold Addr.add at hu
  split at hu
  · rename_i h0; subst h0; exact hu
  · exact hu
theorem Reads.keep (h : Reads w B size A n xs) (hk : ∀ p : Addr, p.block < B → w'.cell? p = w.cell? p) : Reads w' B size A n xs :=
  ⟨h.1, fun hn => by
    obtain ⟨ad, e, hb, hc⟩ := h.2 hn
    exact ⟨ad, e, hb, fun j u hu => (hk _ (by rw [block_of_add]; exact hb)).trans (hc j u hu)⟩⟩
theorem Reads.more (h : Reads w B size A n xs) (hB : B ≤ B') : Reads w B' size A n xs :=
  ⟨h.1, fun hn => by
    obtain ⟨ad, e, hb, hc⟩ := h.2 hn
    exact ⟨ad, e, by omega, hc⟩⟩
theorem Reads.below (h : Reads w B size A n xs) (hb : Below B w w') : Reads w' B size A n xs := h.keep fun _ hp => hb.cell hp
theorem Reads.drew (h : Reads w B size A n xs) : Reads w.drew B size A n xs := h
theorem Reads.drewN (h : Reads w B size A n xs) (k : Nat) : Reads (w.drewN k) B size A n xs := h
theorem Reads.alloc (h : Reads w B size A n xs) (hB : B ≤ w.heap.size) (o : Obj) : Reads (w.alloc o) B size A n xs := h.keep fun p hp => World.cell?_alloc_lt w o p (by omega)
theorem Reads.setCell (h : Reads w B size A n xs) {p : Addr} (hB : B ≤ p.block) (u : Value) : Reads (w.setCell p u) B size A n xs :=
  h.keep fun q hq => World.cell?_setCell_other w p q u (fun e => by subst e; omega)
theorem Reads.grown (h : Reads w B size A n xs) {row : Option Nat} (hg : w.grownBy w' row) (hB : B ≤ w.heap.size) (hr : ∀ g, row = some g → B ≤ g) : Reads w' B size A n xs :=
  h.keep fun p hp => World.cell?_of_block (hg.block p.block (by omega) (fun e => by have := hr _ e.symm; omega))
theorem Reads.cut (h : Reads w B size A n xs) {k cap : Nat} (hk : k ≤ n) (hc : n ≤ cap) :
    Reads w B size (if cap = k then A else A.map (·.add (k * size))) (n - k) (xs.drop (k * size)) := by
  refine ⟨by rw [List.length_drop, h.1, Nat.sub_mul], fun hn => ?_⟩
  obtain ⟨ad, rfl, hb, hcell⟩ := h.2 (by omega)
  rw [if_neg (by omega)]
  refine ⟨ad.add (k * size), rfl, by rw [block_of_add]; exact hb, fun j u hu => ?_⟩
  rw [add_of_add]
  exact hcell _ u (by rw [← hu, List.getElem?_drop])
theorem Reads.take (h : Reads w B size A n xs) {k : Nat} (hk : k ≤ n) : Reads w B size A k (xs.take (k * size)) := by
  refine ⟨by rw [List.length_take, h.1]; exact Nat.min_eq_left (Nat.mul_le_mul_right _ hk), fun hn => ?_⟩
  obtain ⟨ad, rfl, hb, hcell⟩ := h.2 (by omega)
  refine ⟨ad, rfl, hb, fun j u hu => ?_⟩
  rw [List.getElem?_take] at hu
  split at hu
  · exact hcell _ u hu
  · cases hu
theorem Reads.of_own {base : Nat} {e : TypeId} {c : Nat} (h : w.ownsRow base e size (.slice A n c) n xs) : Reads w w.heap.size size A n xs := by
  refine ⟨h.1, fun hn => ?_⟩
  obtain ⟨g, cap, hv, _, hlt⟩ := h.form hn
  have hA : A = some ⟨g, 0, none⟩ := by injection hv
  subst hA
  exact ⟨_, rfl, hlt, h.cells (g := g) rfl⟩
end

/-- Block g is just the cells cs of element type t, none frozen. -/
def Blk (w : World) (g : Nat) (t : TypeId) (cs : Array Value) : Prop := w.heap[g]? = some (.cells cs t (0, 0))
section
variable {w w' : World} {g : Nat} {t : TypeId} {cs : Array Value}
theorem Blk.lt (h : Blk w g t cs) : g < w.heap.size := by
  rcases Nat.lt_or_ge g w.heap.size with hlt | hge
  · exact hlt
  · unfold Blk at h; rw [Array.getElem?_eq_none hge] at h; cases h
theorem Blk.cell (h : Blk w g t cs) (i : Nat) : w.cell? ⟨g, i, none⟩ = cs[i]? := cell_of_row w g i cs t (0, 0) h
theorem Blk.frozen (h : Blk w g t cs) (i : Nat) : w.frozen? ⟨g, i, none⟩ = false := by
  unfold Blk at h
  simp [World.frozen?, h]
theorem Blk.new (w : World) (t : TypeId) (cs : Array Value) : Blk (w.alloc (.cells cs t)) w.heap.size t cs := heap_alloc_new w _
theorem Blk.new_at (w : World) (t : TypeId) (cs : Array Value) (g : Nat) (hg : g = w.heap.size) : Blk (w.alloc (.cells cs t)) g t cs := by subst hg; exact Blk.new w t cs
theorem Blk.drew (h : Blk w g t cs) : Blk w.drew g t cs := h
theorem Blk.drewN (h : Blk w g t cs) (n : Nat) : Blk (w.drewN n) g t cs := h
theorem Blk.alloc (h : Blk w g t cs) (o : Obj) : Blk (w.alloc o) g t cs := (Below.heap_alloc w o g h.lt).trans h
theorem Blk.set_ (h : Blk w g t cs) (i : Nat) (u : Value) : Blk (w.setCell ⟨g, i, none⟩ u) g t (cs.setIfInBounds i u) := by
  unfold Blk at h ⊢
  simp [World.setCell, Array.getElem?_modify, h]
theorem Blk.far (h : Blk w g t cs) {p : Addr} (hp : g ≠ p.block) (u : Value) : Blk (w.setCell p u) g t cs := (Below.heap_setCell w p u g hp).trans h
theorem Blk.below {B : Nat} (h : Blk w g t cs) (hb : Below B w w') (hg : g < B) : Blk w' g t cs := (hb.block g hg).trans h
theorem Blk.grown {row : Option Nat} (h : Blk w g t cs) (hb : w.grownBy w' row) (hg : some g ≠ row) : Blk w' g t cs := (hb.block g h.lt hg).trans h
theorem Blk.ne_ {g' : Nat} {t' : TypeId} {cs' : Array Value} (h : Blk w g t cs) (h' : Blk w g' t' cs') (hne : t ≠ t') : g ≠ g' := by
  rintro rfl
  unfold Blk at h h'
  rw [h] at h'
  injection h' with h'
  injection h' with _ ht
  exact hne ht
end

/-! ### From a datum's reading to 'Reads' -/
section
variable {H : Type} {enc : TypeId × Value → H} {P : Program} {w : World} {base : Nat} {spare : Nat → Bool} {held : Bool}

theorem cell_lt {w : World} {a : Addr} {v : Value} (h : w.cell? a = some v) : a.block < w.heap.size := by
  unfold World.cell? at h
  rcases Nat.lt_or_ge a.block w.heap.size with hlt | hge
  · exact hlt
  · rw [Array.getElem?_eq_none hge] at h; cases h

/-- No part of the datum is longer than the form's reach. -/
def Sized (P : Program) (t : TypeId) (d : DataW H) : Prop := ∀ n ∈ d.weights P t, n ≤ reachBytes
theorem weightsAll_mem {e : TypeId} {d : DataW H} {n : Nat} : ∀ {l : List (DataW H)}, d ∈ l → n ∈ d.weights P e → n ∈ DataW.weightsAll P e l
  | x :: l, hd, hn => by
    simp only [DataW.weightsAll, List.mem_append]
    rcases List.mem_cons.1 hd with rfl | hd
    · exact Or.inl hn
    · exact Or.inr (weightsAll_mem hd hn)
theorem Sized.field {t : TypeId} {fs : Array Field} {parts : List (DataW H)} (ht : P.underlying t = some (.struct fs)) (hz : Sized P t (.agg parts)) {j : Nat} {f : Field} {d : DataW H} (hf : fs[j]? = some f) (hd : parts[j]? = some d) : Sized P f.type d := by
  intro n hn
  refine hz n ?_
  simp only [DataW.weights, ht]
  exact DataW.weights_mem_each (by simpa using ⟨f, hf, rfl⟩) hd n hn
theorem sized_arg {ts : List TypeId} {ds : List (DataW H)} (h : (DataW.weightsEach P ts ds).all (· ≤ reachBytes) = true) {j : Nat} {t : TypeId} {d : DataW H} (ht : ts[j]? = some t) (hd : ds[j]? = some d) : Sized P t d := by
  intro n hn
  have := List.all_eq_true.1 h n (DataW.weights_mem_each ht hd n hn)
  simpa using this

/-- Whatever slice can be read as data: 'Reads', and each element's cells read as data of the element's type. -/
theorem open_reads {t e : TypeId} {s fuel : Nat} {cs : List Value} {x : DataW H × List MemPlace} (ht : P.underlying t = some (.slice e)) (hs : P.cellsOf e = s) (hs0 : 0 < s)
    (h : DataW.trod enc P w base spare held fuel t cs = some x) (hz : Sized P t x.1) :
    ∃ A n c vs, cs = [.slice A n c] ∧ n ≤ c ∧ c ≤ maxLen ∧ n * P.bytesOf e ≤ reachBytes ∧ Reads w w.heap.size s A n vs ∧
      ∀ i, i < n → ∃ f y, DataW.trod enc P w base spare held f e ((vs.drop (i * s)).take s) = some y ∧ Sized P e y.1 := by
  rcases open_slice ht h with ⟨rfl, rfl⟩ | ⟨a, len, cap, m, n, D, Pl, rfl, hb, hl, hm, hmm, hx, hi⟩
  · exact ⟨none, 0, 0, [], rfl, Nat.le_refl _, Nat.zero_le _, by simp, Reads.none_, fun i hi => absurd hi (by omega)⟩
  · have hz1 : len * P.bytesOf e ≤ reachBytes := by
      have h1 := hz ((((List.range len).map D).length + ((List.range (m - len)).map fun j => D (len + j)).length) * P.bytesOf e) (by rw [hx]; simp [DataW.weights, ht])
      refine Nat.le_trans (Nat.mul_le_mul_right _ ?_) h1
      simp
    have hz2 : ∀ i, i < len → Sized P e (D i) := by
      intro i hil n hn
      refine hz n ?_
      rw [hx]
      simp only [DataW.weights, ht, List.mem_cons, List.mem_append]
      exact Or.inr (Or.inl (weightsAll_mem (List.mem_map.2 ⟨i, List.mem_range.2 hil, rfl⟩) hn))
    rw [hs] at hi
    have hlm : len ≤ m := by rw [hmm]; split <;> omega
    let vs := (List.range (len * s)).map fun j => (w.cell? (a.add j)).getD undef
    have hvl : vs.length = len * s := by simp [vs]
    have key : ∀ i, i < len → ∃ cs', cs'.length = s ∧ (∀ j, j < s → w.cell? (a.add (i * s + j)) = cs'[j]?) ∧ DataW.trod enc P w base spare held n e cs' = some (D i, Pl i) := by
      intro i hil
      obtain ⟨cs', hc, ht'⟩ := hi i (by omega)
      obtain ⟨_, hcl, hat⟩ := World.cells?_some hc
      exact ⟨cs', hcl, fun j hj => by rw [← add_of_add]; exact hat j hj, ht'⟩
    have hcell : ∀ j, j < len * s → ∃ u, w.cell? (a.add j) = some u := by
      intro j hj
      have hq : j / s < len := by rw [Nat.div_lt_iff_lt_mul hs0]; exact hj
      have hr : j % s < s := Nat.mod_lt _ hs0
      obtain ⟨cs', hcl, hat, _⟩ := key (j / s) hq
      have := hat (j % s) hr
      rw [show j / s * s + j % s = j from by rw [Nat.mul_comm]; exact Nat.div_add_mod j s] at this
      exact ⟨cs'[j % s]'(by omega), by rw [this]; exact List.getElem?_eq_getElem (by omega)⟩
    have hvs : ∀ j, j < len * s → w.cell? (a.add j) = vs[j]? := by
      intro j hj
      obtain ⟨u, hu⟩ := hcell j hj
      simp [vs, hj, hu]
    refine ⟨some a, len, cap, vs, rfl, hl, hm, hz1, ⟨hvl, fun hn => ⟨a, rfl, ?_, fun j u hu => ?_⟩⟩, fun i hil => ⟨n, (D i, Pl i), ?_, hz2 i hil⟩⟩
    · obtain ⟨u, hu⟩ := hcell 0 (Nat.mul_pos hn hs0)
      have := cell_lt hu
      rwa [block_of_add] at this
    · have hj : j < len * s := by
        rw [← hvl]
        rcases Nat.lt_or_ge j vs.length with h | h
        · exact h
        · rw [List.getElem?_eq_none h] at hu; cases hu
      rw [hvs j hj, hu]
    · obtain ⟨cs', hcl, hat, ht'⟩ := key i hil
      rw [← ht']
      congr 1
      have hle : i * s + s ≤ len * s := by
        have : (i + 1) * s ≤ len * s := Nat.mul_le_mul_right _ (by omega)
        rwa [Nat.succ_mul] at this
      apply List.ext_getElem?
      intro j
      rw [List.getElem?_take, List.getElem?_drop]
      split
      · rename_i hj
        rw [← hvs _ (by omega), hat j hj]
      · rw [List.getElem?_eq_none (by omega)]

/-- A slice of integers. -/
theorem open_list {t e : TypeId} {k : IntKind} {fuel : Nat} {cs : List Value} {x : DataW H × List MemPlace} (ht : P.underlying t = some (.slice e)) (he : P.underlying e = some (.int k)) (hs : P.cellsOf e = 1)
    (h : DataW.trod enc P w base spare held fuel t cs = some x) (hz : Sized P t x.1) :
    ∃ A n c, ∃ l : List Int, cs = [.slice A n c] ∧ n ≤ c ∧ c ≤ maxLen ∧ n * P.bytesOf e ≤ reachBytes ∧ l.length = n ∧ Reads w w.heap.size 1 A n (l.map (Value.int k)) ∧ ∀ z ∈ l, (Lit.int k z).wf = true := by
  obtain ⟨A, n, c, vs, rfl, hc, hm, hby, hr, hi⟩ := open_reads ht hs (by omega) h hz
  have hl : vs.length = n := by have := hr.1; omega
  have key : ∀ i, i < n → ∃ z, vs[i]? = some (.int k z) ∧ (Lit.int k z).wf = true := by
    intro i hin
    obtain ⟨f, y, hy, _⟩ := hi i hin
    obtain ⟨z, hz, _, hw⟩ := DataW.trod_int he hy
    have h0 : ((vs.drop (i * 1)).take 1)[0]? = vs[i]? := by simp
    rw [hz] at h0
    exact ⟨z, h0.symm, hw⟩
  refine ⟨A, n, c, vs.map intOf, rfl, hc, hm, hby, by simpa using hl, ?_, ?_⟩
  · have : (vs.map intOf).map (Value.int k) = vs := by
      apply List.ext_getElem?
      intro j
      rcases Nat.lt_or_ge j n with hj | hj
      · obtain ⟨z, hz, _⟩ := key j hj
        simp [hz, intOf]
      · rw [List.getElem?_eq_none (by simp; omega), List.getElem?_eq_none (by omega)]
    rw [this]; exact hr
  · intro z hz
    obtain ⟨j, hj, rfl⟩ := List.mem_iff_getElem.1 hz
    have hj' : j < vs.length := by simpa using hj
    obtain ⟨z, hz, hw⟩ := key j (by omega)
    rw [List.getElem?_eq_getElem hj'] at hz
    have : vs[j] = .int k z := by injection hz
    simpa [this, intOf] using hw

def boolOf : Value → Bool | .bool b => b | _ => false
/-- A slice of bools. -/
theorem open_bools {t e : TypeId} {fuel : Nat} {cs : List Value} {x : DataW H × List MemPlace} (ht : P.underlying t = some (.slice e)) (he : P.underlying e = some .bool) (hs : P.cellsOf e = 1)
    (h : DataW.trod enc P w base spare held fuel t cs = some x) (hz : Sized P t x.1) :
    ∃ A n c, ∃ l : List Bool, cs = [.slice A n c] ∧ n ≤ c ∧ c ≤ maxLen ∧ n * P.bytesOf e ≤ reachBytes ∧ l.length = n ∧ Reads w w.heap.size 1 A n (l.map Value.bool) := by
  obtain ⟨A, n, c, vs, rfl, hc, hm, hby, hr, hi⟩ := open_reads ht hs (by omega) h hz
  have hl : vs.length = n := by have := hr.1; omega
  refine ⟨A, n, c, vs.map boolOf, rfl, hc, hm, hby, by simpa using hl, ?_⟩
  have : (vs.map boolOf).map Value.bool = vs := by
    apply List.ext_getElem?
    intro j
    rcases Nat.lt_or_ge j n with hj | hj
    · obtain ⟨f, y, hy, _⟩ := hi j hj
      obtain ⟨z, hz, _⟩ := DataW.trod_bool he hy
      have h0 : ((vs.drop (j * 1)).take 1)[0]? = vs[j]? := by simp
      rw [hz] at h0
      simp [← h0, boolOf]
    · rw [List.getElem?_eq_none (by simp; omega), List.getElem?_eq_none (by omega)]
  rw [this]; exact hr

theorem wf_u64 {x : Int} (h : (Lit.int .u64 x).wf = true) : ∃ n : Nat, x = n ∧ n < 18446744073709551616 := by
  have hx : 0 ≤ x ∧ x ≤ 18446744073709551615 := by simpa [Lit.wf, IntKind.min, IntKind.max, IntKind.signed, IntKind.bits] using h
  exact ⟨x.toNat, by omega, by omega⟩
theorem wf_i64 {x : Int} (h : (Lit.int .i64 x).wf = true) : -9223372036854775808 ≤ x ∧ x ≤ 9223372036854775807 := by
  simpa [Lit.wf, IntKind.min, IntKind.max, IntKind.signed, IntKind.bits] using h
theorem wf_u8 {x : Int} (h : (Lit.int .u8 x).wf = true) : 0 ≤ x ∧ x ≤ 255 := by
  simpa [Lit.wf, IntKind.min, IntKind.max, IntKind.signed, IntKind.bits] using h

/-! ### What a walk is told of an argument -/
def IsInts (k : IntKind) (w : World) (B : Nat) (v : Value) (l : List Int) : Prop :=
  ∃ A c, v = .slice A l.length c ∧ l.length ≤ c ∧ c ≤ maxLen ∧ l.length ≤ 140737488351232 ∧ Reads w B 1 A l.length (l.map (Value.int k)) ∧ ∀ z ∈ l, (Lit.int k z).wf = true
def IsBools (w : World) (B : Nat) (v : Value) (l : List Bool) : Prop :=
  ∃ A c, v = .slice A l.length c ∧ l.length ≤ c ∧ c ≤ maxLen ∧ l.length ≤ 140737488351232 ∧ Reads w B 1 A l.length (l.map Value.bool)
/-- A slice of words, as natural numbers. -/
def wordV (n : Nat) : Value := .int .u64 n
def IsWords (w : World) (B : Nat) (v : Value) (l : List Nat) : Prop :=
  ∃ A c, v = .slice A l.length c ∧ l.length ≤ c ∧ c ≤ maxLen ∧ l.length ≤ 140737488351232 ∧ Reads w B 1 A l.length (l.map wordV) ∧ ∀ z ∈ l, z < 18446744073709551616
def I64 (x : Int) : Prop := -9223372036854775808 ≤ x ∧ x ≤ 9223372036854775807
def IsBits (w : World) (B : Nat) (v : Value) (n : Int) (l : List Nat) : Prop :=
  ∃ s, v = .agg #[.int .i64 n, s] ∧ I64 n ∧ IsWords w B s l
def IsPacked (w : World) (B : Nat) (v : Value) (n m : Int) (l : List Nat) : Prop :=
  ∃ s, v = .agg #[.int .i64 n, .int .i64 m, s] ∧ I64 n ∧ I64 m ∧ IsWords w B s l

variable {r : Reach} {b0 : Nat} {t e : TypeId} {v : Value} {d : DataW H} {ps : List MemPlace}
theorem arg_u64 (ht : P.underlying t = some (.int .u64)) (hv : Value.okWide P w r b0 t v) (h : DataW.Trod enc P w base spare held t v d ps) (hz : Sized P t d) : ∃ n : Nat, v = .int .u64 n ∧ n < 18446744073709551616 := by
  obtain ⟨x, rfl, _, _, hw⟩ := open_int ht hv h
  obtain ⟨n, rfl, hn⟩ := wf_u64 hw
  exact ⟨n, rfl, hn⟩
theorem arg_i64 (ht : P.underlying t = some (.int .i64)) (hv : Value.okWide P w r b0 t v) (h : DataW.Trod enc P w base spare held t v d ps) (hz : Sized P t d) : ∃ x : Int, v = .int .i64 x ∧ I64 x := by
  obtain ⟨x, rfl, _, _, hw⟩ := open_int ht hv h
  exact ⟨x, rfl, wf_i64 hw⟩
theorem arg_bool (ht : P.underlying t = some .bool) (hv : Value.okWide P w r b0 t v) (h : DataW.Trod enc P w base spare held t v d ps) (hz : Sized P t d) : ∃ x : Bool, v = .bool x := by
  obtain ⟨x, rfl, _, _⟩ := open_bool ht hv h
  exact ⟨x, rfl⟩
theorem arg_string (ht : P.underlying t = some .string) (hv : Value.okWide P w r b0 t v) (h : DataW.Trod enc P w base spare held t v d ps) (hz : Sized P t d) : ∃ s : ByteArray, v = .string s ∧ s.size ≤ 140737488351232 := by
  obtain ⟨x, rfl, rfl, _, hs⟩ := Go.ChangeMaps.open_string ht hv h
  have := hz x.data.toList.length (by simp [DataW.weights])
  exact ⟨x, rfl, by simpa [reachBytes] using this⟩
theorem ints_of {k : IntKind} {fuel : Nat} {x : DataW H × List MemPlace} (ht : P.underlying t = some (.slice e)) (he : P.underlying e = some (.int k)) (hs : P.cellsOf e = 1) (hby : 1 ≤ P.bytesOf e)
    (h : DataW.trod enc P w base spare held fuel t [v] = some x) (hz : Sized P t x.1) : ∃ l, IsInts k w w.heap.size v l := by
  obtain ⟨A, n, c, l, hcs, hc, hm, hb, rfl, hr, hw⟩ := open_list ht he hs h hz
  simp only [List.cons.injEq, and_true] at hcs
  have : l.length * 1 ≤ l.length * P.bytesOf e := Nat.mul_le_mul_left _ hby
  have hr2 : reachBytes = 140737488351232 := rfl
  exact ⟨l, A, c, hcs, hc, hm, by omega, hr, hw⟩
theorem arg_ints {k : IntKind} (ht : P.underlying t = some (.slice e)) (he : P.underlying e = some (.int k)) (hs : P.cellsOf e = 1) (hby : 1 ≤ P.bytesOf e) (hv : Value.okWide P w r b0 t v) (h : DataW.Trod enc P w base spare held t v d ps) (hz : Sized P t d) :
    ∃ l, IsInts k w w.heap.size v l := by
  obtain ⟨a, len, cap, rfl⟩ := okWide_slice ht hv
  obtain ⟨fuel, hf⟩ := h
  exact ints_of ht he hs hby hf hz
theorem words_of_ints {B : Nat} {l : List Int} (h : IsInts .u64 w B v l) : ∃ ws, IsWords w B v ws := by
  obtain ⟨A, c, rfl, hc, hm, hb, hr, hw⟩ := h
  refine ⟨l.map Int.toNat, A, c, by simp, by simpa using hc, hm, by simpa using hb, ?_, ?_⟩
  · have : (l.map Int.toNat).map wordV = l.map (Value.int .u64) := by
      rw [List.map_map]
      refine List.map_congr_left fun z hz => ?_
      obtain ⟨n, rfl, _⟩ := wf_u64 (hw z hz)
      rfl
    rw [this, List.length_map]; exact hr
  · intro z hz
    obtain ⟨y, hy, rfl⟩ := List.mem_map.1 hz
    obtain ⟨n, rfl, hn⟩ := wf_u64 (hw y hy)
    simpa using hn
theorem arg_words (ht : P.underlying t = some (.slice e)) (he : P.underlying e = some (.int .u64)) (hs : P.cellsOf e = 1) (hby : 1 ≤ P.bytesOf e) (hv : Value.okWide P w r b0 t v) (h : DataW.Trod enc P w base spare held t v d ps) (hz : Sized P t d) :
    ∃ l, IsWords w w.heap.size v l := by
  obtain ⟨l, hl⟩ := arg_ints ht he hs hby hv h hz
  exact words_of_ints hl
theorem arg_bools (ht : P.underlying t = some (.slice e)) (he : P.underlying e = some .bool) (hs : P.cellsOf e = 1) (hby : 1 ≤ P.bytesOf e) (hv : Value.okWide P w r b0 t v) (h : DataW.Trod enc P w base spare held t v d ps) (hz : Sized P t d) :
    ∃ l, IsBools w w.heap.size v l := by
  obtain ⟨a, len, cap, rfl⟩ := okWide_slice ht hv
  obtain ⟨fuel, hf⟩ := h
  obtain ⟨A, n, c, l, hcs, hc, hm, hb, rfl, hr⟩ := open_bools ht he hs hf hz
  simp only [Value.cells, List.cons.injEq, and_true] at hcs
  have : l.length * 1 ≤ l.length * P.bytesOf e := Nat.mul_le_mul_left _ hby
  have hr2 : reachBytes = 140737488351232 := rfl
  exact ⟨l, A, c, hcs, hc, hm, by omega, hr⟩
theorem arg_bits {f0 f1 : Field} {u : TypeId} (ht : P.underlying t = some (.struct #[f0, f1])) (h0 : P.underlying f0.type = some (.int .i64)) (h1 : P.underlying f1.type = some (.slice u)) (hu : P.underlying u = some (.int .u64)) (hs : P.cellsOf u = 1) (hby : 1 ≤ P.bytesOf u)
    (hone : oneCellFields P #[f0, f1] = true) (hC : P.cellsOf t = 2) (hv : Value.okWide P w r b0 t v) (h : DataW.Trod enc P w base spare held t v d ps) (hz : Sized P t d) :
    ∃ n l, IsBits w w.heap.size v n l := by
  obtain ⟨v0, v1, y0, y1, n, rfl, rfl, _, t0, t1⟩ := open_agg2 ht hone hC hv h
  obtain ⟨x, hx, _, hw⟩ := DataW.trod_int h0 t0
  simp only [List.cons.injEq, and_true] at hx
  subst hx
  obtain ⟨l, hl⟩ := ints_of h1 hu hs hby t1 (hz.field ht (j := 1) rfl rfl)
  obtain ⟨ws, hws⟩ := words_of_ints hl
  exact ⟨x, ws, v1, rfl, wf_i64 hw, hws⟩
theorem arg_packed {f0 f1 f2 : Field} {u : TypeId} (ht : P.underlying t = some (.struct #[f0, f1, f2])) (h0 : P.underlying f0.type = some (.int .i64)) (h0' : P.underlying f1.type = some (.int .i64)) (h1 : P.underlying f2.type = some (.slice u)) (hu : P.underlying u = some (.int .u64)) (hs : P.cellsOf u = 1) (hby : 1 ≤ P.bytesOf u)
    (hone : oneCellFields P #[f0, f1, f2] = true) (hC : P.cellsOf t = 3) (hv : Value.okWide P w r b0 t v) (h : DataW.Trod enc P w base spare held t v d ps) (hz : Sized P t d) :
    ∃ n m l, IsPacked w w.heap.size v n m l := by
  obtain ⟨v0, v1, v2, y0, y1, y2, n, rfl, rfl, _, t0, t1, t2⟩ := open_agg3 ht hone hC hv h
  obtain ⟨x, hx, _, hw⟩ := DataW.trod_int h0 t0
  simp only [List.cons.injEq, and_true] at hx
  subst hx
  obtain ⟨z, hz', _, hw'⟩ := DataW.trod_int h0' t1
  simp only [List.cons.injEq, and_true] at hz'
  subst hz'
  obtain ⟨l, hl⟩ := ints_of h1 hu hs hby t2 (hz.field ht (j := 2) rfl rfl)
  obtain ⟨ws, hws⟩ := words_of_ints hl
  exact ⟨x, z, ws, v2, rfl, wf_i64 hw, wf_i64 hw', hws⟩
end
section
variable {k : IntKind} {w w' : World} {B B' : Nat} {v : Value} {l : List Int} {ws : List Nat} {lb : List Bool}
theorem IsInts.below (h : IsInts k w B v l) (hb : Below B w w') : IsInts k w' B v l := by
  obtain ⟨A, c, rfl, h1, h2, h5, h3, h4⟩ := h
  exact ⟨A, c, rfl, h1, h2, h5, h3.below hb, h4⟩
theorem IsWords.below (h : IsWords w B v ws) (hb : Below B w w') : IsWords w' B v ws := by
  obtain ⟨A, c, rfl, h1, h2, h5, h3, h4⟩ := h
  exact ⟨A, c, rfl, h1, h2, h5, h3.below hb, h4⟩
theorem IsBools.below (h : IsBools w B v lb) (hb : Below B w w') : IsBools w' B v lb := by
  obtain ⟨A, c, rfl, h1, h2, h5, h3⟩ := h
  exact ⟨A, c, rfl, h1, h2, h5, h3.below hb⟩
theorem IsInts.more (h : IsInts k w B v l) (hB : B ≤ B') : IsInts k w B' v l := by
  obtain ⟨A, c, rfl, h1, h2, h5, h3, h4⟩ := h
  exact ⟨A, c, rfl, h1, h2, h5, h3.more hB, h4⟩
theorem IsWords.more (h : IsWords w B v ws) (hB : B ≤ B') : IsWords w B' v ws := by
  obtain ⟨A, c, rfl, h1, h2, h5, h3, h4⟩ := h
  exact ⟨A, c, rfl, h1, h2, h5, h3.more hB, h4⟩
theorem IsBits.below {n : Int} (h : IsBits w B v n ws) (hb : Below B w w') : IsBits w' B v n ws := by
  obtain ⟨s, rfl, h1, h2⟩ := h
  exact ⟨s, rfl, h1, h2.below hb⟩
theorem IsBits.more {n : Int} (h : IsBits w B v n ws) (hB : B ≤ B') : IsBits w B' v n ws := by
  obtain ⟨s, rfl, h1, h2⟩ := h
  exact ⟨s, rfl, h1, h2.more hB⟩
theorem IsPacked.below {n m : Int} (h : IsPacked w B v n m ws) (hb : Below B w w') : IsPacked w' B v n m ws := by
  obtain ⟨s, rfl, h1, h1', h2⟩ := h
  exact ⟨s, rfl, h1, h1', h2.below hb⟩
end

/-! ### append of one element onto a row of the call's own -/
/-- What the program's tables say of a slice type T and its element type E. -/
structure El (P : Program) (T E : TypeId) (z : Value) (size bytes : Nat) : Prop where
  ht : P.underlying T = some (.slice E)
  hi : (P.info? E).map (fun i => (i.zero, i.size, i.bytes)) = some (some z, size, bytes)
  hz : z.cells.size = size
  hs : 0 < size
section
variable {P : Program} {w : World}
theorem El.info {T E : TypeId} {z : Value} {size bytes : Nat} (h : El P T E z size bytes) : ∃ i, P.info? E = some i ∧ i.zero = some z ∧ i.size = size ∧ i.bytes = bytes := by
  have := h.hi
  cases hi : P.info? E with
  | none => rw [hi] at this; simp at this
  | some i =>
    rw [hi] at this
    simp at this
    exact ⟨i, rfl, this.1, this.2.1, this.2.2⟩
/-- append(s, x), x one element of one cell: it lies in the new block g. -/
theorem wpList_push {T E : TypeId} {z : Value} {bytes : Nat} (el : El P T E z 1 bytes) {ops : Array Oper} {rest : List Oper} {o : Oper} {a : Act} {Q : Exit → Act → World → Prop} (hgd : o.guard = none) (s x : Operand)
    (ho : o.op = .call { callee := .builtin .append, args := #[s, x], argTypes := #[T, T] })
    (base : Nat) (v : Value) (n : Nat) (xs : List Value) (hown : w.ownsRow base E 1 v n xs) (hs : a.eval s = v)
    (g c : Nat) (u : Value) (hx : a.eval x = .slice (some ⟨g, 0, none⟩) 1 c) (hu : w.cell? ⟨g, 0, none⟩ = some u) (h1 : u.oneCell' = true)
    (h63 : n + 1 ≤ 140737488355328) (hbytes : (n + 1) * bytes ≤ 140737488355328) (hbase : base ≤ w.heap.size)
    (h : ∀ v' w', w'.ownsRow base E 1 v' (n + 1) (xs ++ [u]) → w.grownBy w' v.ownBlock → wpList P ops Q rest (a.put o.dst v') w') : wpList P ops Q (o :: rest) a w := by
  obtain ⟨i, hi, hz, hz1, hz2⟩ := el.info
  refine wpList_append_own w hgd s x T ho base E i z 1 bytes el.ht hi hz hz1 hz2 el.hz (by omega) v n xs hs hown ⟨g, 0, none⟩ 1 c [u] hx rfl ?_ ?_ (by unfold maxLen; omega) hbytes hbase fun v' w' h2 h3 _ => h v' w' h2 h3
  · intro j y hj
    cases j with
    | zero => simp at hj; subst hj; exact hu
    | succ j => simp at hj
  · intro y hy
    simp at hy; subst hy; exact h1
/-- What is kept below B over such an append. -/
theorem below_push {B : Nat} {w0 w w' : World} {base : Nat} {E : TypeId} {size n : Nat} {v : Value} {xs : List Value} (hb : Below B w0 w) (hown : w.ownsRow base E size v n xs) (hB : B ≤ base) (hz : B ≤ w.heap.size) (hg : w.grownBy w' v.ownBlock) : Below B w0 w' :=
  hb.grown hg hz fun k hk => Nat.le_trans hB (hown.lt k hk).1
theorem own_bools {base E n : Nat} {v : Value} {l : List Bool} (h : w.ownsRow base E 1 v n (l.map Value.bool)) (hn : l.length ≤ 140737488351232) : IsBools w w.heap.size v l := by
  have hl : l.length = n := by have := h.1; simpa using this
  subst hl
  rcases h.2 with ⟨rfl, h0⟩ | ⟨g, cap, cur, rfl, _, _, hnc, hcm, _⟩
  · exact ⟨none, 0, by rw [h0], by omega, by omega, hn, h.1, fun hp => absurd hp (by omega)⟩
  · exact ⟨_, cap, rfl, hnc, hcm, hn, Reads.of_own h⟩
theorem own_ints {k : IntKind} {base E n : Nat} {v : Value} {l : List Int} (h : w.ownsRow base E 1 v n (l.map (Value.int k))) (hn : l.length ≤ 140737488351232) (hw : ∀ z ∈ l, (Lit.int k z).wf = true) : IsInts k w w.heap.size v l := by
  have hl : l.length = n := by have := h.1; simpa using this
  subst hl
  rcases h.2 with ⟨rfl, h0⟩ | ⟨g, cap, cur, rfl, _, _, hnc, hcm, _⟩
  · exact ⟨none, 0, by rw [h0], by omega, by omega, hn, ⟨h.1, fun hp => absurd hp (by omega)⟩, hw⟩
  · exact ⟨_, cap, rfl, hnc, hcm, hn, Reads.of_own h, hw⟩
theorem own_words {base E n : Nat} {v : Value} {l : List Nat} (h : w.ownsRow base E 1 v n (l.map wordV)) (hn : l.length ≤ 140737488351232) (hw : ∀ z ∈ l, z < 18446744073709551616) : IsWords w w.heap.size v l := by
  have hl : l.length = n := by have := h.1; simpa using this
  subst hl
  rcases h.2 with ⟨rfl, h0⟩ | ⟨g, cap, cur, rfl, _, _, hnc, hcm, _⟩
  · exact ⟨none, 0, by rw [h0], by omega, by omega, hn, ⟨h.1, fun hp => absurd hp (by omega)⟩, hw⟩
  · exact ⟨_, cap, rfl, hnc, hcm, hn, Reads.of_own h, hw⟩
theorem bools_at {B : Nat} {A : Option Addr} {l : List Bool} (hr : Reads w B 1 A l.length (l.map Value.bool)) (hn : 0 < l.length) :
    ∃ b off, A = some ⟨b, off, none⟩ ∧ b < B ∧ ∀ k, k < l.length → w.cell? ⟨b, off + k, none⟩ = some (.bool (l.getD k false)) := by
  obtain ⟨b, off, e, hb, hc⟩ := hr.addr hn
  refine ⟨b, off, e, hb, fun k hk => ?_⟩
  obtain ⟨u, hx, hu⟩ := hc k hk
  rw [hu, ← hx]
  simp [hk]
theorem ints_cells {k : IntKind} {B : Nat} {A : Option Addr} {l : List Int} (hr : Reads w B 1 A l.length (l.map (Value.int k))) (hn : 0 < l.length) :
    ∃ b off, A = some ⟨b, off, none⟩ ∧ b < B ∧ ∀ j, j < l.length → w.cell? ⟨b, off + j, none⟩ = some (.int k (l.getD j 0)) := by
  obtain ⟨b, off, e, hb, hc⟩ := hr.addr hn
  refine ⟨b, off, e, hb, fun j hj => ?_⟩
  obtain ⟨u, hx, hu⟩ := hc j hj
  rw [hu, ← hx]
  simp [hj]
end

/-! ### make([]T, n) -/
theorem run_make_rowN {P : Program} (t e : TypeId) (i : TypeInfo) (z : Value) (ht : P.underlying t = some (.slice e)) (hi : P.info? e = some i) (hz : i.zero = some z)
    (kl kc : IntKind) (n c : Nat) (hnc : n ≤ c) (hbytes : i.bytes * c ≤ 281474976710656) (h63 : c ≤ 9223372036854775807) (w : World) :
    (Instr.makeSlice t (.int kl (n : Int)) (.int kc (c : Int))).run P w = .ok (.slice (some ⟨w.heap.size, 0, none⟩) n c) (w.alloc (.cells (madeCells z.cells (c * i.size)) e)) := by
  have hb : (i.bytes : Int) * (c : Int) ≤ 281474976710656 := by
    have h : ((i.bytes * c : Nat) : Int) ≤ 281474976710656 := by omega
    rwa [Int.natCast_mul] at h
  have hr := run_make (P := P) w t e i z ht hi hz kl kc n c (by omega) (by omega) hb (by omega)
  simp only [Int.toNat_natCast] at hr
  exact hr
/-- make([]T, n), T one cell: a row of n zeros. -/
theorem run_make1 {P : Program} {T E : TypeId} {z : Value} {bytes : Nat} (el : El P T E z 1 bytes) (h1 : z.cells = #[z]) (x : Int) (n : Nat) (hx : x = n) (hn : bytes * n ≤ 281474976710656) (h63 : n ≤ 9223372036854775807) (w : World) :
    (Instr.makeSlice T (.int .i64 x) (.int .i64 x)).run P w = .ok (.slice (some ⟨w.heap.size, 0, none⟩) n n) (w.alloc (.cells (List.replicate n z).toArray E)) := by
  subst hx
  obtain ⟨i, hi, hz, hz1, hz2⟩ := el.info
  rw [run_make_rowN T E i z el.ht hi hz .i64 .i64 n n (Nat.le_refl _) (by rw [hz2]; exact hn) h63 w, hz1, h1]
  congr 3
  have : madeCells #[z] (n * 1) = (List.replicate n z).toArray := by
    unfold madeCells
    apply Array.ext
    · simp
    · intro j h1 h2
      have : j % 1 = 0 := Nat.mod_one j
      simp [this]
  rw [this]
theorem own_shape {w : World} {base : Nat} {e : TypeId} {size n : Nat} {v : Value} {xs : List Value} (h : w.ownsRow base e size v n xs) : ∃ A c, v = .slice A n c := by
  rcases ownsRow_forms h with ⟨rfl, rfl⟩ | ⟨g, cap, rfl⟩
  · exact ⟨_, _, rfl⟩
  · exact ⟨_, _, rfl⟩
theorem own_ne {w : World} {base k : Nat} {e : TypeId} {size n : Nat} {v : Value} {xs : List Value} (h : w.ownsRow base e size v n xs) (hk : k < base) : v.ownBlock ≠ some k := fun e => by
  have := (h.lt k e).1; omega
end Go.Dam

/-
  Plain laws of rises in a list: the piles of patience, and the length of the longest rise that ends at each place; no program in sight. Conditions: none.
-/
namespace Go.Dam
set_option linter.unusedVariables false
/-- The greatest of L[k], k < m, with f k < x; or 0. -/
def bestTo (f : Nat → Int) (L : List Nat) (x : Int) : Nat → Nat
  | 0 => 0
  | k + 1 => if f k < x ∧ bestTo f L x k < L.getD k 0 then L.getD k 0 else bestTo f L x k
/-- The lengths of the rises that end at the first n places. -/
def lensTo (f : Nat → Int) : Nat → List Nat
  | 0 => []
  | i + 1 => lensTo f i ++ [bestTo f (lensTo f i) (f i) i + 1]
theorem bestTo_0 (f : Nat → Int) (L : List Nat) (x : Int) : bestTo f L x 0 = 0 := rfl
theorem bestTo_yes {f : Nat → Int} {L : List Nat} {x : Int} {k : Nat} (h : f k < x) (g : bestTo f L x k < L.getD k 0) : bestTo f L x (k + 1) = L.getD k 0 := by rw [bestTo, if_pos ⟨h, g⟩]
theorem bestTo_no1 {f : Nat → Int} {L : List Nat} {x : Int} {k : Nat} (h : ¬ f k < x) : bestTo f L x (k + 1) = bestTo f L x k := by rw [bestTo, if_neg (fun e => h e.1)]
theorem bestTo_no2 {f : Nat → Int} {L : List Nat} {x : Int} {k : Nat} (h : ¬ bestTo f L x k < L.getD k 0) : bestTo f L x (k + 1) = bestTo f L x k := by rw [bestTo, if_neg (fun e => h e.2)]
theorem bestTo_ge {f : Nat → Int} {L : List Nat} {x : Int} : ∀ {m k : Nat}, k < m → f k < x → L.getD k 0 ≤ bestTo f L x m
  | m + 1, k, hk, hx => by
    rcases Nat.lt_or_ge k m with h | h
    · have := bestTo_ge (L := L) h hx
      rw [bestTo]; split
      · rename_i g; omega
      · exact this
    · obtain rfl : k = m := by omega
      rw [bestTo]; split
      · exact Nat.le_refl _
      · rename_i g
        have : ¬ bestTo f L x k < L.getD k 0 := fun e => g ⟨hx, e⟩
        omega
theorem bestTo_le {f : Nat → Int} {L : List Nat} {x : Int} {b : Nat} : ∀ {m : Nat}, (∀ k, k < m → f k < x → L.getD k 0 ≤ b) → bestTo f L x m ≤ b
  | 0, _ => Nat.zero_le _
  | m + 1, h => by
    have ih := bestTo_le (m := m) (f := f) (L := L) (x := x) (b := b) fun k hk hx => h k (by omega) hx
    rw [bestTo]; split
    · rename_i g; exact h m (by omega) g.1
    · exact ih
theorem lensTo_0 (f : Nat → Int) : lensTo f 0 = [] := rfl
theorem lensTo_succ (f : Nat → Int) (i : Nat) : lensTo f (i + 1) = lensTo f i ++ [bestTo f (lensTo f i) (f i) i + 1] := rfl
theorem lensTo_length (f : Nat → Int) : ∀ n, (lensTo f n).length = n
  | 0 => rfl
  | n + 1 => by rw [lensTo_succ, List.length_append, lensTo_length f n]; rfl
theorem lensTo_old {f : Nat → Int} {n i : Nat} (h : i < n) : (lensTo f (n + 1)).getD i 0 = (lensTo f n).getD i 0 := by
  rw [lensTo_succ, List.getD_eq_getElem?_getD, List.getElem?_append_left (by rw [lensTo_length]; exact h), ← List.getD_eq_getElem?_getD]
theorem lensTo_new (f : Nat → Int) (n : Nat) : (lensTo f (n + 1)).getD n 0 = bestTo f (lensTo f n) (f n) n + 1 := by
  rw [lensTo_succ, List.getD_eq_getElem?_getD, List.getElem?_append_right (by rw [lensTo_length]; exact Nat.le_refl _), lensTo_length, Nat.sub_self]; rfl
theorem lensTo_le {f : Nat → Int} : ∀ {n i : Nat}, i < n → 1 ≤ (lensTo f n).getD i 0 ∧ (lensTo f n).getD i 0 ≤ i + 1
  | n + 1, i, hi => by
    rcases Nat.lt_or_ge i n with h | h
    · rw [lensTo_old h]; exact lensTo_le h
    · obtain rfl : i = n := by omega
      rw [lensTo_new]
      have : bestTo f (lensTo f i) (f i) i ≤ i := bestTo_le fun k hk _ => by have := (lensTo_le (f := f) hk).2; omega
      omega
attribute [irreducible] bestTo lensTo
/-- A pile's last place. -/
def topP (p : List Nat) : Nat := p.getLastD 0
theorem topP_snoc (p : List Nat) (i : Nat) : topP (p ++ [i]) = i := by simp [topP]
theorem topP_mem {p : List Nat} (h : p ≠ []) : topP p ∈ p := by
  rcases List.eq_nil_or_concat p with rfl | ⟨q, x, rfl⟩
  · exact absurd rfl h
  · simp [topP]
theorem topP_at {p : List Nat} (h : p ≠ []) : p.getD (p.length - 1) 0 = topP p := by
  rcases List.eq_nil_or_concat p with rfl | ⟨q, x, rfl⟩
  · exact absurd rfl h
  · simp [topP]
/-- The piles of the places below i. -/
structure Piles (f : Nat → Int) (i : Nat) (ps : List (List Nat)) : Prop where
  ne : ∀ k, k < ps.length → ps.getD k [] ≠ []
  mem : ∀ k, k < ps.length → ∀ j, j ∈ ps.getD k [] ↔ j < i ∧ (lensTo f i).getD j 0 = k + 1
  len : ∀ j, j < i → (lensTo f i).getD j 0 ≤ ps.length
  asc : ∀ k, k < ps.length → (ps.getD k []).Pairwise fun a b => a < b ∧ f b ≤ f a
  tops : ∀ k k', k < k' → k' < ps.length → f (topP (ps.getD k [])) < f (topP (ps.getD k' []))
  prev : ∀ k, k + 1 < ps.length → ∀ j ∈ ps.getD (k + 1) [], ∃ j' ∈ ps.getD k [], j' < j ∧ f j' < f j ∧ ∀ x ∈ ps.getD k [], x < j → x ≤ j'
theorem Piles.nil (f : Nat → Int) : Piles f 0 [] := ⟨fun k h => absurd h (by simp), fun k h => absurd h (by simp), fun j h => absurd h (by omega), fun k h => absurd h (by simp), fun k k' h1 h2 => absurd h2 (by simp), fun k h => absurd h (by simp)⟩
/-- Where place i goes: the first pile whose top is not below it. -/
def PlaceAt (f : Nat → Int) (i : Nat) (ps : List (List Nat)) (K : Nat) : Prop := K ≤ ps.length ∧ (∀ k, k < K → f (topP (ps.getD k [])) < f i) ∧ (K < ps.length → f i ≤ f (topP (ps.getD K [])))
theorem Piles.top_le {f : Nat → Int} {i : Nat} {ps : List (List Nat)} (h : Piles f i ps) {k : Nat} (hk : k < ps.length) {j : Nat} (hj : j ∈ ps.getD k []) : f (topP (ps.getD k [])) ≤ f j := by
  have ha := h.asc k hk
  generalize ps.getD k [] = p at hj ha
  rcases List.eq_nil_or_concat p with rfl | ⟨q, x, rfl⟩
  · simp at hj
  · rw [List.concat_eq_append] at hj ha ⊢
    rw [topP_snoc]
    rw [List.pairwise_append] at ha
    rcases List.mem_append.1 hj with h1 | h1
    · exact (ha.2.2 j h1 x (by simp)).2
    · simp at h1; rw [h1]; exact Int.le_refl _
/-- The place's length is told by the pile. -/
theorem Piles.at_ {f : Nat → Int} {i : Nat} {ps : List (List Nat)} (h : Piles f i ps) {K : Nat} (hK : PlaceAt f i ps K) : (lensTo f (i + 1)).getD i 0 = K + 1 := by
  rw [lensTo_new]
  have h1 : bestTo f (lensTo f i) (f i) i ≤ K := bestTo_le fun j hj hf => by
    have hb := lensTo_le (f := f) hj
    have hl := h.len j hj
    obtain ⟨k, hk⟩ : ∃ k, (lensTo f i).getD j 0 = k + 1 := ⟨(lensTo f i).getD j 0 - 1, by omega⟩
    have hm := (h.mem k (by omega) j).2 ⟨hj, hk⟩
    have ht := h.top_le (by omega) hm
    rw [hk]
    rcases Nat.lt_or_ge k K with h2 | h2
    · exact h2
    · exfalso
      have h3 := hK.2.2 (by omega)
      rcases Nat.lt_or_ge K k with h4 | h4
      · have := h.tops K k h4 (by omega); omega
      · obtain rfl : k = K := by omega
        omega
  have h2 : K ≤ bestTo f (lensTo f i) (f i) i := by
    rcases Nat.eq_zero_or_pos K with h0 | h0
    · omega
    · have hkl := hK.1
      have hm := topP_mem (h.ne (K - 1) (by omega))
      have hj := (h.mem (K - 1) (by omega) _).1 hm
      have := bestTo_ge (L := lensTo f i) hj.1 (hK.2.1 (K - 1) (by omega))
      omega
  omega
theorem getD_put_same {α : Type} {l : List α} {k : Nat} (h : k < l.length) (x d : α) : (l.set k x).getD k d = x := by simp [h]
theorem getD_put_ne {α : Type} {l : List α} {k j : Nat} (h : k ≠ j) (x d : α) : (l.set k x).getD j d = l.getD j d := by simp [List.getD_eq_getElem?_getD, List.getElem?_set_ne h]
theorem getD_snoc_old {α : Type} {l : List α} {j : Nat} (h : j < l.length) (x d : α) : (l ++ [x]).getD j d = l.getD j d := by
  rw [List.getD_eq_getElem?_getD, List.getElem?_append_left h, ← List.getD_eq_getElem?_getD]
theorem getD_snoc_new {α : Type} {l : List α} (x d : α) : (l ++ [x]).getD l.length d = x := by
  rw [List.getD_eq_getElem?_getD, List.getElem?_append_right (Nat.le_refl _), Nat.sub_self]; rfl
/-- Place i is put on pile K (or on a new one): told by the piles afterwards. -/
theorem Piles.put {f : Nat → Int} {i : Nat} {ps qs : List (List Nat)} (h : Piles f i ps) {K : Nat} (hK : PlaceAt f i ps K) (hl : qs.length = max ps.length (K + 1)) (hq : qs.getD K [] = ps.getD K [] ++ [i]) (ho : ∀ k, k ≠ K → qs.getD k [] = ps.getD k []) : Piles f (i + 1) qs := by
  have hat := h.at_ hK
  have hKl := hK.1
  have mem_lt : ∀ k, k < ps.length → ∀ j ∈ ps.getD k [], j < i := fun k hk j hj => ((h.mem k hk j).1 hj).1
  have hnil : ps.length ≤ K → ps.getD K [] = [] := fun hle => by rw [List.getD_eq_getElem?_getD, List.getElem?_eq_none hle]; rfl
  have hold : ∀ k, k < qs.length → k ≠ K → k < ps.length := fun k hk hne => by omega
  have hfK : ∀ j ∈ ps.getD K [], j < i ∧ f i ≤ f j := fun j hj => by
    rcases Nat.lt_or_ge K ps.length with h1 | h1
    · have := h.top_le h1 hj; have := hK.2.2 h1; exact ⟨mem_lt K h1 j hj, by omega⟩
    · rw [hnil h1] at hj; simp at hj
  refine ⟨fun k hk => ?_, fun k hk j => ?_, fun j hj => ?_, fun k hk => ?_, fun k k' h1 h2 => ?_, fun k hk j hj => ?_⟩
  · by_cases hne : k = K
    · subst hne; rw [hq]; simp
    · rw [ho k hne]; exact h.ne k (hold k hk hne)
  · by_cases hne : k = K
    · subst hne
      rw [hq, List.mem_append, List.mem_singleton]
      constructor
      · rintro (h1 | h1)
        · have hlt := (hfK j h1).1
          rw [lensTo_old hlt]
          have hkp : k < ps.length := by
            rcases Nat.lt_or_ge k ps.length with h2 | h2
            · exact h2
            · rw [hnil h2] at h1; simp at h1
          exact ⟨by omega, ((h.mem k hkp j).1 h1).2⟩
        · subst h1; exact ⟨by omega, hat⟩
      · rintro ⟨h1, h2⟩
        rcases Nat.lt_or_ge j i with h3 | h3
        · rw [lensTo_old h3] at h2
          have := h.len j h3
          exact .inl ((h.mem k (by omega) j).2 ⟨h3, h2⟩)
        · exact .inr (by omega)
    · rw [ho k hne, h.mem k (hold k hk hne)]
      constructor
      · rintro ⟨h1, h2⟩; rw [lensTo_old h1]; exact ⟨by omega, h2⟩
      · rintro ⟨h1, h2⟩
        rcases Nat.lt_or_ge j i with h3 | h3
        · rw [lensTo_old h3] at h2; exact ⟨h3, h2⟩
        · obtain rfl : j = i := by omega
          rw [hat] at h2; omega
  · rcases Nat.lt_or_ge j i with h3 | h3
    · rw [lensTo_old h3]; have := h.len j h3; omega
    · obtain rfl : j = i := by omega
      rw [hat]; omega
  · by_cases hne : k = K
    · subst hne
      rw [hq, List.pairwise_append]
      refine ⟨?_, by simp, fun a ha b hb => ?_⟩
      · rcases Nat.lt_or_ge k ps.length with h1 | h1
        · exact h.asc k h1
        · rw [hnil h1]; exact .nil
      · simp at hb; subst hb; exact hfK a ha
    · rw [ho k hne]; exact h.asc k (hold k hk hne)
  · by_cases hne : k = K
    · subst hne
      have h3 := hold k' h2 (by omega)
      rw [hq, topP_snoc, ho k' (by omega)]
      have := h.tops k k' h1 h3
      have := hK.2.2 (by omega)
      omega
    · by_cases hne' : k' = K
      · subst hne'
        rw [hq, topP_snoc, ho k hne]
        exact hK.2.1 k h1
      · rw [ho k hne, ho k' hne']
        exact h.tops k k' h1 (hold k' h2 hne')
  · by_cases hne' : k + 1 = K
    · subst hne'
      rw [hq] at hj
      rw [ho k (by omega)]
      rcases List.mem_append.1 hj with h1 | h1
      · have hkp : k + 1 < ps.length := by
          rcases Nat.lt_or_ge (k + 1) ps.length with h2 | h2
          · exact h2
          · rw [hnil h2] at h1; simp at h1
        exact h.prev k hkp j h1
      · simp at h1; subst h1
        have hkp : k < ps.length := by omega
        refine ⟨_, topP_mem (h.ne k hkp), mem_lt k hkp _ (topP_mem (h.ne k hkp)), hK.2.1 k (by omega), fun x hx _ => ?_⟩
        have ha := h.asc k hkp
        generalize ps.getD k [] = p at hx ha
        rcases List.eq_nil_or_concat p with rfl | ⟨q, y, rfl⟩
        · simp at hx
        · rw [List.concat_eq_append] at hx ha ⊢
          rw [topP_snoc]
          rw [List.pairwise_append] at ha
          rcases List.mem_append.1 hx with h4 | h4
          · have := (ha.2.2 x h4 y (by simp)).1; omega
          · simp at h4; omega
    · have hkp : k + 1 < ps.length := hold (k + 1) hk hne'
      rw [ho (k + 1) hne'] at hj
      obtain ⟨j', h1, h2, h3, h4⟩ := h.prev k hkp j hj
      by_cases hne : k = K
      · subst hne
        rw [hq]
        refine ⟨j', List.mem_append.2 (.inl h1), h2, h3, fun x hx hxj => ?_⟩
        rcases List.mem_append.1 hx with h5 | h5
        · exact h4 x h5 hxj
        · simp at h5; subst h5
          have := mem_lt (k + 1) hkp j hj; omega
      · rw [ho k hne]; exact ⟨j', h1, h2, h3, h4⟩
end Go.Dam

/-
  Plain arithmetic on words of 64 bits, no program in sight: how many bits are set (by halves, as math/bits counts them), and a word turned round. Conditions: each word is below 2 to the 64th.
-/
namespace Go.Dam
set_option linter.unusedVariables false
open Go

/-- How many of the bits below place i are set. -/
def cnt (n : Nat) : Nat → Nat
  | 0 => 0
  | i + 1 => cnt n i + n / 2 ^ i % 2
theorem cnt_le (n i : Nat) : cnt n i ≤ i := by
  induction i with
  | zero => exact Nat.le_refl _
  | succ i ih => simp only [cnt]; have := Nat.mod_lt (n / 2 ^ i) (by omega : 0 < 2); omega
theorem cnt_mono (n : Nat) {i j : Nat} (h : i ≤ j) : cnt n i ≤ cnt n j := by
  induction j with
  | zero => simp [Nat.le_zero.1 h]
  | succ j ih =>
    rcases Nat.lt_or_ge i (j + 1) with hlt | hge
    · have := ih (by omega); simp only [cnt]; omega
    · rw [Nat.le_antisymm h hge]; exact Nat.le_refl _
theorem div_pow_add (n i j : Nat) : n / 2 ^ (i + j) = n / 2 ^ i / 2 ^ j := by rw [Nat.pow_add, Nat.div_div_eq_div_mul]
theorem cnt_add (n i j : Nat) : cnt n (i + j) = cnt n i + cnt (n / 2 ^ i) j := by
  induction j with
  | zero => simp [cnt]
  | succ j ih =>
    show cnt n (i + j) + n / 2 ^ (i + j) % 2 = _
    rw [ih, div_pow_add]; simp only [cnt]; omega
theorem cnt_mod (n : Nat) {i j : Nat} (h : i ≤ j) : cnt (n % 2 ^ j) i = cnt n i := by
  induction i with
  | zero => rfl
  | succ i ih =>
    simp only [cnt]
    rw [ih (by omega)]
    have : n % 2 ^ j / 2 ^ i % 2 = n / 2 ^ i % 2 := by
      have h1 : (n % 2 ^ j).testBit i = n.testBit i := by rw [Nat.testBit_mod_two_pow]; simp; intro; omega
      simp only [Nat.testBit, Nat.shiftRight_eq_div_pow, Nat.one_and_eq_mod_two] at h1
      have a := Nat.mod_two_eq_zero_or_one (n % 2 ^ j / 2 ^ i)
      have b := Nat.mod_two_eq_zero_or_one (n / 2 ^ i)
      rcases a with a | a <;> rcases b with b | b <;> simp [a, b] at h1 ⊢
    rw [this]
theorem cnt_zero (i : Nat) : cnt 0 i = 0 := by
  induction i with
  | zero => rfl
  | succ i ih => simp [cnt, ih]

/-- '&' part by part. -/
theorem and_parts (k a b c d : Nat) (ha : a < 2 ^ k) (hc : c < 2 ^ k) : (a + 2 ^ k * b) &&& (c + 2 ^ k * d) = (a &&& c) + 2 ^ k * (b &&& d) := by
  have hac : (a &&& c) < 2 ^ k := Nat.and_lt_two_pow _ hc
  apply Nat.eq_of_testBit_eq
  intro i
  rw [Nat.testBit_and, Nat.add_comm a, Nat.add_comm c, Nat.add_comm (a &&& c), Nat.testBit_two_pow_mul_add _ ha, Nat.testBit_two_pow_mul_add _ hc, Nat.testBit_two_pow_mul_add _ hac]
  split <;> simp [Nat.testBit_and]

/-! ### math/bits.OnesCount64's steps -/
def oc1 (n : Nat) : Nat := (n / 2 &&& 6148914691236517205) + (n &&& 6148914691236517205)
def oc2 (n : Nat) : Nat := (n / 4 &&& 3689348814741910323) + (n &&& 3689348814741910323)
def oc3 (n : Nat) : Nat := (n / 16 + n) &&& 1085102592571150095
def oc4 (n : Nat) : Nat := n + n / 256
def oc5 (n : Nat) : Nat := n + n / 65536
def oc6 (n : Nat) : Nat := n + n / 4294967296


def rep (d : Nat) : Nat → Nat
  | 0 => 0
  | m + 1 => d + 256 * rep d m
/-- Each byte is put through f. -/
def bytewise (f : Nat → Nat) : Nat → Nat → Nat
  | 0, _ => 0
  | m + 1, n => f (n % 256) + 256 * bytewise f m (n / 256)
theorem bytewise_comp (f g : Nat → Nat) (hg : ∀ b, b < 256 → g b < 256) (m n : Nat) : bytewise f m (bytewise g m n) = bytewise (fun b => f (g b)) m n := by
  induction m generalizing n with
  | zero => rfl
  | succ m ih =>
    have hb := hg (n % 256) (Nat.mod_lt _ (by omega))
    simp only [bytewise]
    rw [show (g (n % 256) + 256 * bytewise g m (n / 256)) % 256 = g (n % 256) from by omega, show (g (n % 256) + 256 * bytewise g m (n / 256)) / 256 = bytewise g m (n / 256) from by omega, ih]
theorem bytewise_congr {f g : Nat → Nat} (h : ∀ b, b < 256 → f b = g b) (m n : Nat) : bytewise f m n = bytewise g m n := by
  induction m generalizing n with
  | zero => rfl
  | succ m ih => simp only [bytewise]; rw [h _ (Nat.mod_lt _ (by omega)), ih]
theorem low85 : ∀ r < 256, ∀ b < 2, (r / 2 + 128 * b) &&& 85 = r / 2 &&& 85 := by decide +kernel
theorem low51 : ∀ r < 256, ∀ b < 4, (r / 4 + 64 * b) &&& 51 = r / 4 &&& 51 := by decide +kernel
theorem oc1_bytes (m n : Nat) : (n / 2 &&& rep 85 m) + (n &&& rep 85 m) = bytewise (fun b => (b / 2 &&& 85) + (b &&& 85)) m n := by
  induction m generalizing n with
  | zero => simp [rep, bytewise]
  | succ m ih =>
    simp only [rep, bytewise]
    rw [← ih (n / 256)]
    have h1 : n &&& (85 + 256 * rep 85 m) = (n % 256 &&& 85) + 256 * (n / 256 &&& rep 85 m) := by
      have := and_parts 8 (n % 256) (n / 256) 85 (rep 85 m) (Nat.mod_lt _ (by omega)) (by omega)
      rwa [show n % 256 + 2 ^ 8 * (n / 256) = n from by omega] at this
    have h2 : n / 2 &&& (85 + 256 * rep 85 m) = (n % 256 / 2 &&& 85) + 256 * (n / 256 / 2 &&& rep 85 m) := by
      have := and_parts 8 (n % 256 / 2 + 128 * (n / 256 % 2)) (n / 256 / 2) 85 (rep 85 m) (by omega) (by omega)
      rw [low85 _ (Nat.mod_lt _ (by omega)) _ (Nat.mod_lt _ (by omega))] at this
      rwa [show n % 256 / 2 + 128 * (n / 256 % 2) + 2 ^ 8 * (n / 256 / 2) = n / 2 from by omega] at this
    rw [h1, h2]; omega
theorem oc2_bytes (m n : Nat) : (n / 4 &&& rep 51 m) + (n &&& rep 51 m) = bytewise (fun b => (b / 4 &&& 51) + (b &&& 51)) m n := by
  induction m generalizing n with
  | zero => simp [rep, bytewise]
  | succ m ih =>
    simp only [rep, bytewise]
    rw [← ih (n / 256)]
    have h1 : n &&& (51 + 256 * rep 51 m) = (n % 256 &&& 51) + 256 * (n / 256 &&& rep 51 m) := by
      have := and_parts 8 (n % 256) (n / 256) 51 (rep 51 m) (Nat.mod_lt _ (by omega)) (by omega)
      rwa [show n % 256 + 2 ^ 8 * (n / 256) = n from by omega] at this
    have h2 : n / 4 &&& (51 + 256 * rep 51 m) = (n % 256 / 4 &&& 51) + 256 * (n / 256 / 4 &&& rep 51 m) := by
      have := and_parts 8 (n % 256 / 4 + 64 * (n / 256 % 4)) (n / 256 / 4) 51 (rep 51 m) (by omega) (by omega)
      rw [low51 _ (Nat.mod_lt _ (by omega)) _ (Nat.mod_lt _ (by omega))] at this
      rwa [show n % 256 / 4 + 64 * (n / 256 % 4) + 2 ^ 8 * (n / 256 / 4) = n / 4 from by omega] at this
    rw [h1, h2]; omega
theorem oc3_bytes (f : Nat → Nat) (hf : ∀ b, b < 256 → f b ≤ 68 ∧ f b % 16 ≤ 4) (m n : Nat) : (bytewise f m n / 16 + bytewise f m n) &&& rep 15 m = bytewise (fun b => f b / 16 + f b &&& 15) m n := by
  induction m generalizing n with
  | zero => simp [rep, bytewise]
  | succ m ih =>
    have hb := hf (n % 256) (Nat.mod_lt _ (by omega))
    have hq : bytewise f m (n / 256) % 16 ≤ 4 := by
      cases m with
      | zero => simp [bytewise]
      | succ m => have := (hf (n / 256 % 256) (Nat.mod_lt _ (by omega))).2; simp only [bytewise]; omega
    simp only [rep, bytewise]
    rw [← ih (n / 256)]
    generalize hy : bytewise f m (n / 256) = q at *
    have := and_parts 8 (f (n % 256) / 16 + 16 * (q % 16) + f (n % 256)) (q / 16 + q) 15 (rep 15 m) (by omega) (by omega)
    rw [show f (n % 256) / 16 + 16 * (q % 16) + f (n % 256) + 2 ^ 8 * (q / 16 + q) = (f (n % 256) + 256 * q) / 16 + (f (n % 256) + 256 * q) from by omega] at this
    rw [show (15 + 256 * rep 15 m) = 15 + 2 ^ 8 * rep 15 m from rfl, this]
    congr 1
    rw [Nat.and_two_pow_sub_one_eq_mod _ 4, Nat.and_two_pow_sub_one_eq_mod _ 4]; omega
theorem oc_byte : ∀ b < 256, (((b / 2 &&& 85) + (b &&& 85)) / 4 &&& 51) + ((b / 2 &&& 85) + (b &&& 85) &&& 51) ≤ 68 ∧ ((((b / 2 &&& 85) + (b &&& 85)) / 4 &&& 51) + ((b / 2 &&& 85) + (b &&& 85) &&& 51)) % 16 ≤ 4 := by decide +kernel
theorem oc_byte' : ∀ b < 256, ((((b / 2 &&& 85) + (b &&& 85)) / 4 &&& 51) + ((b / 2 &&& 85) + (b &&& 85) &&& 51)) / 16 + ((((b / 2 &&& 85) + (b &&& 85)) / 4 &&& 51) + ((b / 2 &&& 85) + (b &&& 85) &&& 51)) &&& 15 = cnt b 8 := by decide +kernel
theorem oc_byte1 : ∀ b < 256, (b / 2 &&& 85) + (b &&& 85) < 256 := by decide +kernel
theorem oc123 (n : Nat) : oc3 (oc2 (oc1 n)) = bytewise (fun b => cnt b 8) 8 n := by
  have h1 : oc1 n = _ := oc1_bytes 8 n
  have h2 : oc2 (oc1 n) = _ := oc2_bytes 8 (oc1 n)
  rw [h1, bytewise_comp _ _ oc_byte1] at h2
  have h3 : oc3 (oc2 (oc1 n)) = (oc2 (oc1 n) / 16 + oc2 (oc1 n)) &&& rep 15 8 := rfl
  rw [h1, h2, oc3_bytes _ oc_byte] at h3
  rw [h1, h2, h3]
  exact bytewise_congr oc_byte' 8 n
theorem cnt_byte (n i : Nat) : cnt n (8 + i) = cnt (n % 256) 8 + cnt (n / 256) i := by
  rw [cnt_add, ← cnt_mod n (Nat.le_refl 8)]
theorem div_low (a b B : Nat) (h : a < B) : (a + B * b) / B = b := by
  rw [Nat.add_mul_div_left _ _ (by omega), Nat.div_eq_of_lt h, Nat.zero_add]
theorem half8 (p0 p1 p2 p3 p4 p5 p6 p7 : Nat) (h0 : p0 ≤ 8) (h1 : p1 ≤ 8) (h2 : p2 ≤ 8) (h3 : p3 ≤ 8) (h4 : p4 ≤ 8) (h5 : p5 ≤ 8) (h6 : p6 ≤ 8) (h7 : p7 ≤ 8) :
    p0 + 256 * (p1 + 256 * (p2 + 256 * (p3 + 256 * (p4 + 256 * (p5 + 256 * (p6 + 256 * (p7 + 256 * 0))))))) + (p0 + 256 * (p1 + 256 * (p2 + 256 * (p3 + 256 * (p4 + 256 * (p5 + 256 * (p6 + 256 * (p7 + 256 * 0)))))))) / 256 =
    (p0 + p1) + 256 * ((p1 + p2) + 256 * ((p2 + p3) + 256 * ((p3 + p4) + 256 * ((p4 + p5) + 256 * ((p5 + p6) + 256 * ((p6 + p7) + 256 * p7)))))) := by
  rw [div_low _ _ 256 (by omega)]; omega
theorem half8b (p0 p1 p2 p3 p4 p5 p6 p7 : Nat) (h0 : p0 ≤ 16) (h1 : p1 ≤ 16) (h2 : p2 ≤ 16) (h3 : p3 ≤ 16) (h4 : p4 ≤ 16) (h5 : p5 ≤ 16) (h6 : p6 ≤ 16) (h7 : p7 ≤ 16) :
    p0 + 256 * (p1 + 256 * (p2 + 256 * (p3 + 256 * (p4 + 256 * (p5 + 256 * (p6 + 256 * p7)))))) + (p0 + 256 * (p1 + 256 * (p2 + 256 * (p3 + 256 * (p4 + 256 * (p5 + 256 * (p6 + 256 * p7))))))) / 65536 =
    (p0 + p2) + 256 * ((p1 + p3) + 256 * ((p2 + p4) + 256 * ((p3 + p5) + 256 * ((p4 + p6) + 256 * ((p5 + p7) + 256 * (p6 + 256 * p7)))))) := by
  have : p0 + 256 * (p1 + 256 * (p2 + 256 * (p3 + 256 * (p4 + 256 * (p5 + 256 * (p6 + 256 * p7)))))) = (p0 + 256 * p1) + 65536 * (p2 + 256 * (p3 + 256 * (p4 + 256 * (p5 + 256 * (p6 + 256 * p7))))) := by omega
  rw [this, div_low _ _ 65536 (by omega)]; omega
theorem half8c (p0 p1 p2 p3 p4 p5 p6 p7 : Nat) (h0 : p0 ≤ 32) (h1 : p1 ≤ 32) (h2 : p2 ≤ 32) (h3 : p3 ≤ 32) (h4 : p4 ≤ 32) (h5 : p5 ≤ 32) (h6 : p6 ≤ 32) (h7 : p7 ≤ 32) :
    (p0 + 256 * (p1 + 256 * (p2 + 256 * (p3 + 256 * (p4 + 256 * (p5 + 256 * (p6 + 256 * p7)))))) + (p0 + 256 * (p1 + 256 * (p2 + 256 * (p3 + 256 * (p4 + 256 * (p5 + 256 * (p6 + 256 * p7))))))) / 4294967296) % 128 = p0 + p4 := by
  have : p0 + 256 * (p1 + 256 * (p2 + 256 * (p3 + 256 * (p4 + 256 * (p5 + 256 * (p6 + 256 * p7)))))) = (p0 + 256 * (p1 + 256 * (p2 + 256 * p3))) + 4294967296 * (p4 + 256 * (p5 + 256 * (p6 + 256 * p7))) := by omega
  rw [this, div_low _ _ 4294967296 (by omega)]; omega
theorem ones_count (n : Nat) : oc6 (oc5 (oc4 (oc3 (oc2 (oc1 n))))) % 128 = cnt n 64 := by
  have key : cnt n 64 = _ := cnt_byte n 56
  rw [show (56 : Nat) = 8 + 48 from rfl, cnt_byte, show (48 : Nat) = 8 + 40 from rfl, cnt_byte, show (40 : Nat) = 8 + 32 from rfl, cnt_byte, show (32 : Nat) = 8 + 24 from rfl, cnt_byte, show (24 : Nat) = 8 + 16 from rfl, cnt_byte,
    show (16 : Nat) = 8 + 8 from rfl, cnt_byte, show cnt (n / 256 / 256 / 256 / 256 / 256 / 256 / 256) 8 = cnt (n / 256 / 256 / 256 / 256 / 256 / 256 / 256 % 256) 8 from (cnt_mod _ (Nat.le_refl 8)).symm] at key
  rw [key, oc123]
  simp only [bytewise, oc4, oc5, oc6]
  have b0 := cnt_le (n % 256) 8
  have b1 := cnt_le (n / 256 % 256) 8
  have b2 := cnt_le (n / 256 / 256 % 256) 8
  have b3 := cnt_le (n / 256 / 256 / 256 % 256) 8
  have b4 := cnt_le (n / 256 / 256 / 256 / 256 % 256) 8
  have b5 := cnt_le (n / 256 / 256 / 256 / 256 / 256 % 256) 8
  have b6 := cnt_le (n / 256 / 256 / 256 / 256 / 256 / 256 % 256) 8
  have b7 := cnt_le (n / 256 / 256 / 256 / 256 / 256 / 256 / 256 % 256) 8
  generalize cnt (n % 256) 8 = p0 at *
  generalize cnt (n / 256 % 256) 8 = p1 at *
  generalize cnt (n / 256 / 256 % 256) 8 = p2 at *
  generalize cnt (n / 256 / 256 / 256 % 256) 8 = p3 at *
  generalize cnt (n / 256 / 256 / 256 / 256 % 256) 8 = p4 at *
  generalize cnt (n / 256 / 256 / 256 / 256 / 256 % 256) 8 = p5 at *
  generalize cnt (n / 256 / 256 / 256 / 256 / 256 / 256 % 256) 8 = p6 at *
  generalize cnt (n / 256 / 256 / 256 / 256 / 256 / 256 / 256 % 256) 8 = p7 at *
  clear key
  have e1 := half8 p0 p1 p2 p3 p4 p5 p6 p7 b0 b1 b2 b3 b4 b5 b6 b7
  rw [e1]
  clear e1
  have e2 := half8b (p0 + p1) (p1 + p2) (p2 + p3) (p3 + p4) (p4 + p5) (p5 + p6) (p6 + p7) p7 (by omega) (by omega) (by omega) (by omega) (by omega) (by omega) (by omega) (by omega)
  rw [e2]
  clear e2
  rw [half8c (p0 + p1 + (p2 + p3)) (p1 + p2 + (p3 + p4)) (p2 + p3 + (p4 + p5)) (p3 + p4 + (p5 + p6)) (p4 + p5 + (p6 + p7)) (p5 + p6 + p7) (p6 + p7) p7 (by omega) (by omega) (by omega) (by omega) (by omega) (by omega) (by omega) (by omega)]
  omega

/-! ### math/bits.Reverse64 -/
def rv (k m n : Nat) : Nat := (n / 2 ^ k &&& m) ||| ((n &&& m) * 2 ^ k)
def Swaps (k m : Nat) : Prop := ∀ i < 64, (m.testBit i = true → i ^^^ k = i + k ∧ i + k < 64 ∧ (k ≤ i → m.testBit (i - k) = false)) ∧ (m.testBit i = false → k ≤ i ∧ m.testBit (i - k) = true ∧ i ^^^ k = i - k)
theorem rv_bit {k m : Nat} (h : Swaps k m) (n i : Nat) (hi : i < 64) : (rv k m n).testBit i = n.testBit (i ^^^ k) := by
  obtain ⟨h1, h2⟩ := h i hi
  unfold rv
  rw [Nat.testBit_or, Nat.testBit_and, Nat.testBit_mul_two_pow, Nat.testBit_and, Nat.testBit_div_two_pow]
  cases hm : m.testBit i with
  | true =>
    obtain ⟨e, _, hk⟩ := h1 hm
    rw [e]
    by_cases hki : k ≤ i
    · rw [hk hki]; simp [Nat.add_comm]
    · simp [hki, Nat.add_comm]
  | false =>
    obtain ⟨hki, hm', e⟩ := h2 hm
    rw [e, hm']; simp [hki]
theorem sw1 : Swaps 1 6148914691236517205 := by unfold Swaps; decide +kernel
theorem sw2 : Swaps 2 3689348814741910323 := by unfold Swaps; decide +kernel
theorem sw4 : Swaps 4 1085102592571150095 := by unfold Swaps; decide +kernel
theorem sw8 : Swaps 8 71777214294589695 := by unfold Swaps; decide +kernel
theorem sw16 : Swaps 16 281470681808895 := by unfold Swaps; decide +kernel
theorem sw32 : Swaps 32 4294967295 := by unfold Swaps; decide +kernel
theorem xors : ∀ i < 64, ((((((i ^^^ 32) ^^^ 16) ^^^ 8) ^^^ 4) ^^^ 2) ^^^ 1) = 63 - i ∧ (i ^^^ 32) < 64 ∧ ((i ^^^ 32) ^^^ 16) < 64 ∧ (((i ^^^ 32) ^^^ 16) ^^^ 8) < 64 ∧ ((((i ^^^ 32) ^^^ 16) ^^^ 8) ^^^ 4) < 64 ∧ (((((i ^^^ 32) ^^^ 16) ^^^ 8) ^^^ 4) ^^^ 2) < 64 := by decide +kernel
def rev64 (n : Nat) : Nat := rv 32 4294967295 (rv 16 281470681808895 (rv 8 71777214294589695 (rv 4 1085102592571150095 (rv 2 3689348814741910323 (rv 1 6148914691236517205 n)))))
theorem rev64_bit (n i : Nat) (hi : i < 64) : (rev64 n).testBit i = n.testBit (63 - i) := by
  obtain ⟨e, h1, h2, h3, h4, h5⟩ := xors i hi
  unfold rev64
  rw [rv_bit sw32 _ _ hi, rv_bit sw16 _ _ h1, rv_bit sw8 _ _ h2, rv_bit sw4 _ _ h3, rv_bit sw2 _ _ h4, rv_bit sw1 _ _ h5, e]
/-- Bit by bit: the i lowest bits, the lowest one highest. -/
def turned (n : Nat) : Nat → Nat
  | 0 => 0
  | i + 1 => 2 * turned n i + n / 2 ^ i % 2
theorem turned_bit (n i j : Nat) : (turned n i).testBit j = (decide (j < i) && n.testBit (i - 1 - j)) := by
  induction i generalizing j with
  | zero => simp [turned]
  | succ i ih =>
    have hb : n / 2 ^ i % 2 < 2 ^ 1 := Nat.mod_lt _ (by omega)
    have := Nat.testBit_two_pow_mul_add (turned n i) hb j
    simp only [turned]
    rw [show 2 * turned n i = 2 ^ 1 * turned n i from rfl, this]
    by_cases hj : j < 1
    · have hj0 : j = 0 := by omega
      subst hj0
      simp [Nat.testBit, Nat.shiftRight_eq_div_pow, Nat.one_and_eq_mod_two]
    · rw [if_neg hj, ih]
      have e : i - 1 - (j - 1) = i + 1 - 1 - j := by omega
      rw [e]
      congr 1
      simp; omega
theorem turned_lt (n i : Nat) : turned n i < 2 ^ i := by
  induction i with
  | zero => simp [turned]
  | succ i ih => simp only [turned]; have := Nat.mod_lt (n / 2 ^ i) (by omega : 0 < 2); rw [Nat.pow_succ]; omega
theorem rv_lt {k m n : Nat} (hm : m * 2 ^ k < 2 ^ 64) (hm' : m < 2 ^ 64) : rv k m n < 2 ^ 64 := by
  unfold rv
  refine Nat.or_lt_two_pow (Nat.and_lt_two_pow _ hm') ?_
  have : n &&& m ≤ m := Nat.and_le_right
  exact Nat.lt_of_le_of_lt (Nat.mul_le_mul_right _ this) hm
theorem rev_turned (n : Nat) : rev64 n = turned n 64 := by
  apply Nat.eq_of_testBit_eq
  intro i
  rw [turned_bit]
  by_cases hi : i < 64
  · rw [rev64_bit _ _ hi]; simp [hi]
  · have h1 : rev64 n < 2 ^ 64 := rv_lt (by decide) (by decide)
    have h2 : rev64 n < 2 ^ i := Nat.lt_of_lt_of_le h1 (Nat.pow_le_pow_right (by omega) (by omega))
    rw [Nat.testBit_lt_two_pow h2]; simp [hi]
/-- What the bit-by-bit sum has gathered behind i rounds. -/
theorem turned_step (n i : Nat) (hi : i < 64) : 2 ^ (64 - i) * turned n i + n / 2 ^ i % 2 * 2 ^ (63 - i) = 2 ^ (64 - (i + 1)) * turned n (i + 1) := by
  simp only [turned]
  rw [show 64 - i = (63 - i) + 1 from by omega, show 64 - (i + 1) = 63 - i from by omega, Nat.pow_succ, Nat.mul_add, Nat.mul_comm (n / 2 ^ i % 2)]
  rw [Nat.mul_assoc]

/-! ### '&', '|', '^' at int, both sides not below 0 -/
theorem ofInt_i64 (a : Nat) (ha : a < 9223372036854775808) : (BitVec.ofInt 64 (a : Int)).toNat = a := by
  rw [BitVec.ofInt_natCast, BitVec.toNat_ofNat]; exact Nat.mod_eq_of_lt (by omega)
theorem i64_and_nat (a b : Nat) (ha : a < 9223372036854775808) (hb : b < 9223372036854775808) : bits .and .i64 (a : Int) (b : Int) = ((a &&& b : Nat) : Int) := by
  have hx : a &&& b < 2 ^ 63 := Nat.and_lt_two_pow _ (by omega)
  show IntKind.i64.wrap ((BitVec.ofInt 64 (a : Int) &&& BitVec.ofInt 64 (b : Int)).toNat : Int) = _
  rw [BitVec.toNat_and, ofInt_i64 a ha, ofInt_i64 b hb, IntKind.wrap_i64]
  omega
theorem i64_or_nat (a b : Nat) (ha : a < 9223372036854775808) (hb : b < 9223372036854775808) : bits .or .i64 (a : Int) (b : Int) = ((a ||| b : Nat) : Int) := by
  have hx : a ||| b < 2 ^ 63 := Nat.or_lt_two_pow (by omega) (by omega)
  show IntKind.i64.wrap ((BitVec.ofInt 64 (a : Int) ||| BitVec.ofInt 64 (b : Int)).toNat : Int) = _
  rw [BitVec.toNat_or, ofInt_i64 a ha, ofInt_i64 b hb, IntKind.wrap_i64]
  omega
theorem and_u64 (x : Int) (a m : Nat) (hx : x = (a : Nat)) (ha : a < 18446744073709551616) (hm : m < 18446744073709551616) : bits .and .u64 x (m : Int) = ((a &&& m : Nat) : Int) := by subst hx; exact u64_and_nat a m ha hm
theorem or_u64 (x y : Int) (a m : Nat) (hx : x = (a : Nat)) (hy : y = (m : Nat)) (ha : a < 18446744073709551616) (hm : m < 18446744073709551616) : bits .or .u64 x y = ((a ||| m : Nat) : Int) := by subst hx hy; exact u64_or_nat a m ha hm
theorem and_i64 (x : Int) (a m : Nat) (hx : x = (a : Nat)) (ha : a < 9223372036854775808) (hm : m < 9223372036854775808) : bits .and .i64 x (m : Int) = ((a &&& m : Nat) : Int) := by subst hx; exact i64_and_nat a m ha hm
/-- Bit i of a word. -/
theorem bit_u64 (n i : Nat) (hn : n < 18446744073709551616) : bits .and .u64 ((n : Int) / 2 ^ i) 1 = ((n / 2 ^ i % 2 : Nat) : Int) := by
  have h : n / 2 ^ i ≤ n := Nat.div_le_self _ _
  have := and_u64 ((n : Int) / 2 ^ i) (n / 2 ^ i) 1 (by simp) (by omega) (by decide)
  rw [Nat.and_one_is_mod] at this
  exact this
theorem bit_test (n i : Nat) : (((n / 2 ^ i % 2 : Nat) : Int) == 1) = n.testBit i := by
  simp only [Nat.testBit, Nat.shiftRight_eq_div_pow, Nat.one_and_eq_mod_two]
  rcases Nat.mod_two_eq_zero_or_one (n / 2 ^ i) with h | h <;> rw [h] <;> rfl
theorem wrap_u64 (x : Int) : IntKind.u64.wrap x = x % 18446744073709551616 := by simp [IntKind.wrap, IntKind.bits, IntKind.signed]
/-- The mask of the i lowest bits, as Go makes it: 1<<i - 1. -/
theorem mask_u64 (i : Nat) (hi : i ≤ 64) : IntKind.u64.wrap (IntKind.u64.wrap (2 ^ i) - 1) = ((2 ^ i - 1 : Nat) : Int) := by
  rw [wrap_u64, wrap_u64]
  have h1 : 1 ≤ 2 ^ i := Nat.one_le_two_pow
  have e : ((2 : Int) ^ i) = ((2 ^ i : Nat) : Int) := by simp
  rcases Nat.lt_or_ge i 64 with h | h
  · have h2 : 2 ^ i < 2 ^ 64 := Nat.pow_lt_pow_right (by omega) h
    rw [e]; omega
  · obtain rfl : i = 64 := by omega
    decide
theorem mask_and (n i : Nat) (hn : n < 18446744073709551616) (hi : i ≤ 64) : bits .and .u64 (n : Int) (IntKind.u64.wrap (IntKind.u64.wrap (2 ^ i) - 1)) = ((n % 2 ^ i : Nat) : Int) := by
  rw [mask_u64 i hi]
  have h2 : 2 ^ i ≤ 2 ^ 64 := Nat.pow_le_pow_right (by omega) hi
  have := and_u64 (n : Int) n (2 ^ i - 1) rfl hn (by omega)
  rwa [Nat.and_two_pow_sub_one_eq_mod] at this
theorem cnt_low (n i : Nat) (hi : i ≤ 64) : cnt (n % 2 ^ i) 64 = cnt n i := by
  rw [show (64 : Nat) = i + (64 - i) from by omega, cnt_add, cnt_mod n (Nat.le_refl i), Nat.div_eq_of_lt (Nat.mod_lt _ (Nat.two_pow_pos i)), cnt_zero, Nat.add_zero]
theorem mod_of_test (n i : Nat) : n / 2 ^ i % 2 = if n.testBit i then 1 else 0 := by
  simp only [Nat.testBit, Nat.shiftRight_eq_div_pow, Nat.one_and_eq_mod_two]
  rcases Nat.mod_two_eq_zero_or_one (n / 2 ^ i) with h | h <;> rw [h] <;> rfl
theorem cnt_0 (n : Nat) : cnt n 0 = 0 := rfl
theorem cnt_succ (n i : Nat) : cnt n (i + 1) = cnt n i + n / 2 ^ i % 2 := rfl
theorem turned_le (n i : Nat) (hi : i ≤ 64) : 2 ^ (64 - i) * turned n i < 18446744073709551616 := by
  have h := turned_lt n i
  have h1 : 2 ^ (64 - i) * turned n i < 2 ^ (64 - i) * 2 ^ i := Nat.mul_lt_mul_of_pos_left h (Nat.two_pow_pos _)
  rw [← Nat.pow_add, show 64 - i + i = 64 from by omega] at h1
  exact h1
theorem turned_0 (n : Nat) : turned n 0 = 0 := rfl
theorem pow_u64 (i : Nat) (hi : i < 64) : IntKind.u64.wrap (2 ^ i) = ((2 ^ i : Nat) : Int) := by
  have h2 : 2 ^ i < 2 ^ 64 := Nat.pow_lt_pow_right (by omega) hi
  have e : ((2 : Int) ^ i) = ((2 ^ i : Nat) : Int) := by simp
  rw [wrap_u64, e]
  generalize (2 ^ i : Nat) = q at *
  omega
theorem rv_facts (k m n : Nat) (K M : Int) (hK : K = 2 ^ k) (hM : M = (m : Nat)) (hn : n < 18446744073709551616) (hm : m < 18446744073709551616) (hmk : m * 2 ^ k < 18446744073709551616) :
    ∃ a b : Nat, (a : Int) ≤ M ∧ (b : Int) * K ≤ M * K ∧ (b : Int) ≤ M ∧ bits .and .u64 ((n : Int) / K) M = (a : Int) ∧ bits .and .u64 (n : Int) M = (b : Int) ∧ bits .or .u64 (a : Int) ((b : Int) * K) = ((rv k m n : Nat) : Int) ∧ rv k m n < 18446744073709551616 := by
  subst hK hM
  have hd : n / 2 ^ k ≤ n := Nat.div_le_self _ _
  have hb : n &&& m ≤ m := Nat.and_le_right
  have hbk : (n &&& m) * 2 ^ k ≤ m * 2 ^ k := Nat.mul_le_mul_right _ hb
  have ha : n / 2 ^ k &&& m ≤ m := Nat.and_le_right
  have hbk' : (((n &&& m : Nat) : Int)) * 2 ^ k ≤ (m : Int) * 2 ^ k := by
    have : (((n &&& m) * 2 ^ k : Nat) : Int) ≤ ((m * 2 ^ k : Nat) : Int) := by omega
    simpa using this
  refine ⟨n / 2 ^ k &&& m, n &&& m, by omega, hbk', by omega, and_u64 _ (n / 2 ^ k) m (by simp) (by omega) hm, and_u64 _ n m rfl hn hm, ?_, rv_lt (by omega) (by omega)⟩
  unfold rv
  exact or_u64 _ _ _ _ rfl (by simp) (by omega) (by omega)
theorem rv_last (n2 : Nat) (h2 : n2 < 18446744073709551616) : bits .or .u64 ((n2 : Int) / 4294967296) (IntKind.u64.wrap ((n2 : Int) * 4294967296)) = ((rv 32 4294967295 n2 : Nat) : Int) := by
  rw [wrap_u64]
  have e : ((n2 : Int) * 4294967296) % 18446744073709551616 = ((n2 &&& 4294967295 : Nat) : Int) * 4294967296 := by
    rw [show (4294967295 : Nat) = 2 ^ 32 - 1 from rfl, Nat.and_two_pow_sub_one_eq_mod]; omega
  rw [e]
  unfold rv
  have e4 : n2 / 2 ^ 32 &&& 4294967295 = n2 / 2 ^ 32 := by
    rw [show (4294967295 : Nat) = 2 ^ 32 - 1 from rfl, Nat.and_two_pow_sub_one_eq_mod]; omega
  rw [e4]
  have hb : n2 &&& 4294967295 ≤ 4294967295 := Nat.and_le_right
  exact or_u64 _ _ _ _ (by omega) (by omega) (by omega) (by omega)
theorem rev64_eq (n : Nat) : rev64 n = rv 32 4294967295 (rv 16 281470681808895 (rv 8 71777214294589695 (rv 4 1085102592571150095 (rv 2 3689348814741910323 (rv 1 6148914691236517205 n))))) := rfl
attribute [irreducible] cnt turned rev64 rv
end Go.Dam

/-
  append onto a row of the call's own, with the word where the row lies afterwards: where it lay, or in a new block; of any number of cells. Conditions: none; nothing here names the program.
-/
namespace Go.Dam
open Go Go.RowKit Go.ChangeShapes Go.WideShapes Go.Joins Go.Deep
set_option linter.unusedVariables false
section
variable {P : Program} {w : World}
/-- The row v' lies where v lay, or in a block that is not below B. -/
def LiesOr (B : Nat) (v v' : Value) : Prop := ∀ g, v'.ownBlock = some g → v.ownBlock = some g ∨ B ≤ g
theorem run_append_lies (t ty e : TypeId) (i : TypeInfo) (z : Value) (size bytes : Nat) (base : Nat) (ht : P.underlying t = some (.slice e)) (hi : P.info? e = some i) (hz : i.zero = some z)
    (hsize : i.size = size) (hby : i.bytes = bytes) (hzs : z.cells.size = size) (hsz : 0 < size)
    (v : Value) (n : Nat) (xs : List Value) (hown : w.ownsRow base e size v n xs)
    (a : Addr) (m c : Nat) (news : List Value) (hl : news.length = m * size) (hnews : ∀ j u, news[j]? = some u → w.cell? (a.add j) = some u) (h1 : ∀ u ∈ news, u.oneCell' = true)
    (h63 : n + m ≤ maxLen) (hbytes : (n + m) * bytes ≤ 140737488355328) (hbase : base ≤ w.heap.size) (v' : Value) (w' : World)
    (hrun : (Builtin.append_ #[t, t] ty #[v, .slice (some a) m c]).run P w = .ok v' w') : LiesOr w.heap.size v v' := by
  rcases hown.2 with ⟨rfl, rfl⟩ | ⟨g, cap, cur, rfl, hbg, hg, hnc, hcm, hcs, htake⟩
  · have hx : xs = [] := List.eq_nil_of_length_eq_zero (by simpa using hown.1)
    subst hx
    obtain ⟨v2, w2, hr, h2, _⟩ := run_append_own (P := P) w w.heap.size t ty e i z size bytes ht hi hz hsize hby hzs hsz (.slice none 0 0) 0 [] (World.ownsRow_nil w w.heap.size e size) a m c news hl hnews h1 h63 hbytes (Nat.le_refl _)
    rw [hrun] at hr
    injection hr with hv hw
    subst hv
    exact fun g hg => .inr (h2.lt g hg).1
  · subst hsize
    have hsmall : n + m ≤ 9223372036854775807 := by simp only [maxLen] at h63; omega
    by_cases hroom : n + m ≤ cap
    · have hfit : n * i.size + news.length ≤ cur.size := by rw [hl, hcs, ← Nat.add_mul]; exact Nat.mul_le_mul_right _ hroom
      have hr := run_append_room (P := P) w t ty e i ht hi g n cap cur hg a m c news hl hnews h1 hroom hfit
      rw [hrun] at hr
      injection hr with hv hw
      subst hv
      exact fun k hk => .inl hk
    · have holds : ∀ j u, xs[j]? = some u → w.cell? ((⟨g, 0, none⟩ : Addr).add j) = some u := hown.cells (g := g) rfl
      have hr := run_append_grow (P := P) w t ty e i z ht hi hz ⟨g, 0, none⟩ n cap xs hown.1 holds a m c news hl hnews (by omega) (by omega) (by subst hby; exact growslice_fits (by omega) hbytes)
      rw [hrun] at hr
      injection hr with hv hw
      subst hv
      refine fun k hk => .inr ?_
      simp only [Value.ownBlock, Option.some.injEq] at hk
      omega
/-- append of m elements, with the word where the row lies. -/
theorem wpList_pushM {T E : TypeId} {z : Value} {size bytes : Nat} (el : El P T E z size bytes) {ops : Array Oper} {rest : List Oper} {o : Oper} {a : Act} {Q : Exit → Act → World → Prop} (hgd : o.guard = none) (s x : Operand)
    (ho : o.op = .call { callee := .builtin .append, args := #[s, x], argTypes := #[T, T] })
    (base : Nat) (v : Value) (n : Nat) (xs : List Value) (hown : w.ownsRow base E size v n xs) (hs : a.eval s = v)
    (ad : Addr) (m c : Nat) (news : List Value) (hx : a.eval x = .slice (some ad) m c) (hl : news.length = m * size) (hnews : ∀ j u, news[j]? = some u → w.cell? (ad.add j) = some u) (h1 : ∀ u ∈ news, u.oneCell' = true)
    (h63 : n + m ≤ 140737488355328) (hbytes : (n + m) * bytes ≤ 140737488355328) (hbase : base ≤ w.heap.size)
    (h : ∀ v' w', w'.ownsRow base E size v' (n + m) (xs ++ news) → w.grownBy w' v.ownBlock → LiesOr w.heap.size v v' → wpList P ops Q rest (a.put o.dst v') w') : wpList P ops Q (o :: rest) a w := by
  obtain ⟨i, hi, hz, hz1, hz2⟩ := el.info
  refine wpList_plain hgd fun K hK => ?_
  obtain ⟨v', w', hr, h2, h3, h4⟩ := run_append_own (P := P) w base T o.type E i z size bytes el.ht hi hz hz1 hz2 el.hz el.hs v n xs hown ad m c news hl hnews h1 (by unfold maxLen; omega) hbytes hbase
  have h5 := run_append_lies (P := P) T o.type E i z size bytes base el.ht hi hz hz1 hz2 el.hz el.hs v n xs hown ad m c news hl hnews h1 (by unfold maxLen; omega) hbytes hbase v' w' hr
  unfold Oper.wp execOp
  simp only [ho, resolve, invoke, builtin, Sem.run_bind, Sem.run_pure, Result.andThen_ok, List.map_toArray, List.map_cons, List.map_nil, hs, hx, hr]
  exact hK _ _ (h v' w' h2 h3 h5)
theorem add_zero_addr (g j : Nat) : (⟨g, 0, none⟩ : Addr).add j = ⟨g, j, none⟩ := by unfold Addr.add; split <;> simp_all
/-- append(s, x), x one element of one cell: it lies in the block g. -/
theorem wpList_pushD {T E : TypeId} {z : Value} {bytes : Nat} (el : El P T E z 1 bytes) {ops : Array Oper} {rest : List Oper} {o : Oper} {a : Act} {Q : Exit → Act → World → Prop} (hgd : o.guard = none) (s x : Operand)
    (ho : o.op = .call { callee := .builtin .append, args := #[s, x], argTypes := #[T, T] })
    (base : Nat) (v : Value) (n : Nat) (xs : List Value) (hown : w.ownsRow base E 1 v n xs) (hs : a.eval s = v)
    (g c : Nat) (u : Value) (hx : a.eval x = .slice (some ⟨g, 0, none⟩) 1 c) (hu : w.cell? ⟨g, 0, none⟩ = some u) (h1 : u.oneCell' = true)
    (h63 : n + 1 ≤ 140737488355328) (hbytes : (n + 1) * bytes ≤ 140737488355328) (hbase : base ≤ w.heap.size)
    (h : ∀ v' w', w'.ownsRow base E 1 v' (n + 1) (xs ++ [u]) → w.grownBy w' v.ownBlock → LiesOr w.heap.size v v' → wpList P ops Q rest (a.put o.dst v') w') : wpList P ops Q (o :: rest) a w := by
  refine wpList_pushM el hgd s x ho base v n xs hown hs ⟨g, 0, none⟩ 1 c [u] hx rfl ?_ ?_ h63 hbytes hbase h
  · intro j y hj
    cases j with
    | zero => simp at hj; subst hj; exact hu
    | succ j => simp at hj
  · intro y hy
    simp at hy; subst hy; exact h1
end
/-- Two rows of the call's own do not lie in one block. -/
def Apart (v u : Value) : Prop := ∀ g, v.ownBlock = some g → u.ownBlock ≠ some g
theorem Apart.symm {v u : Value} (h : Apart v u) : Apart u v := fun g h1 h2 => h g h2 h1
theorem Apart.nil (u : Value) : Apart (.slice none 0 0) u := fun g h => by cases h
theorem Apart.nil' (u : Value) : Apart u (.slice none 0 0) := fun g h h' => by cases h'
/-- A row that was appended to is still apart from another old one. -/
theorem Apart.grow {w : World} {v v' u : Value} {base : Nat} {e : TypeId} {size n : Nat} {xs : List Value} (h : Apart v u) (hl : LiesOr w.heap.size v v') (hu : w.ownsRow base e size u n xs) : Apart v' u := by
  intro g h1 h2
  rcases hl g h1 with h3 | h3
  · exact h g h3 h2
  · have := (hu.lt g h2).2; omega
/-- The other row is kept. -/
theorem Apart.kept {w w' : World} {v u : Value} {base : Nat} {e : TypeId} {size n : Nat} {xs : List Value} (h : Apart v u) (hg : w.grownBy w' v.ownBlock) (hu : w.ownsRow base e size u n xs) : w'.ownsRow base e size u n xs := by
  refine hu.kept hg ?_
  cases hb : u.ownBlock with
  | none => exact .inl rfl
  | some g => exact .inr fun e => h g e.symm hb
end Go.Dam

/-
  How a slice of structs of m ints lies in memory: one flat list of ints, m for each element; and how the argument is opened to it. Conditions: none; nothing here names the program.
-/
namespace Go.Dam
open Go Go.RowKit Go.ChangeShapes Go.WideShapes Go.Joins Go.Deep
set_option linter.unusedVariables false
/-- The slice value reads as n elements of m ints each; l is all of them, one behind the other. -/
def IsFlat (m : Nat) (w : World) (B : Nat) (v : Value) (n : Nat) (l : List Int) : Prop :=
  ∃ A c, v = .slice A n c ∧ n ≤ c ∧ c ≤ maxLen ∧ n ≤ 140737488351232 ∧ l.length = n * m ∧ Reads w B m A n (l.map (Value.int .i64)) ∧ ∀ z ∈ l, (Lit.int .i64 z).wf = true
section
variable {m n : Nat} {w w' : World} {B B' : Nat} {v : Value} {l : List Int} {A : Option Addr}
theorem IsFlat.below (h : IsFlat m w B v n l) (hb : Below B w w') : IsFlat m w' B v n l := by
  obtain ⟨A, c, rfl, h1, h2, h5, h6, h3, h4⟩ := h
  exact ⟨A, c, rfl, h1, h2, h5, h6, h3.below hb, h4⟩
theorem IsFlat.more (h : IsFlat m w B v n l) (hB : B ≤ B') : IsFlat m w B' v n l := by
  obtain ⟨A, c, rfl, h1, h2, h5, h6, h3, h4⟩ := h
  exact ⟨A, c, rfl, h1, h2, h5, h6, h3.more hB, h4⟩
theorem flat_cells (hr : Reads w B m A n (l.map (Value.int .i64))) (hl : l.length = n * m) (hn : 0 < n) (hm : 0 < m) :
    ∃ b off, A = some ⟨b, off, none⟩ ∧ b < B ∧ ∀ j, j < n * m → w.cell? ⟨b, off + j, none⟩ = some (.int .i64 (l.getD j 0)) := by
  obtain ⟨ad, e, hb, hc⟩ := hr.2 hn
  obtain ⟨b, off, sp⟩ := ad
  have key : ∀ j, j < n * m → w.cell? ((⟨b, off, sp⟩ : Addr).add j) = some (.int .i64 (l.getD j 0)) := by
    intro j hj
    refine hc j _ ?_
    have : j < l.length := by omega
    simp [this]
  have h0 := key 0 (Nat.mul_pos hn hm)
  have hsp : sp = none := by simpa [Addr.add] using cell_spot h0
  subst hsp
  refine ⟨b, off, e, hb, fun j hj => ?_⟩
  have hu := key j hj
  unfold Addr.add at hu
  split at hu
  · rename_i h0; subst h0; exact hu
  · exact hu
theorem flat_wf (hw : ∀ z ∈ l, (Lit.int .i64 z).wf = true) (j : Nat) : I64 (l.getD j 0) := by
  rcases Nat.lt_or_ge j l.length with h | h
  · have : l.getD j 0 = l[j] := by simp [h]
    rw [this]
    exact wf_i64 (hw _ (List.getElem_mem h))
  · have : l.getD j 0 = 0 := by simp [h]
    rw [this]; unfold I64; omega
end
section
variable {H : Type} {enc : TypeId × Value → H} {P : Program} {w : World} {base : Nat} {spare : Nat → Bool} {held : Bool}
/-- Whatever slice of structs of m ints can be read as data. -/
theorem open_flat {t e : TypeId} {fs : Array Field} {m fuel : Nat} {cs : List Value} {x : DataW H × List MemPlace} (ht : P.underlying t = some (.slice e)) (he : P.underlying e = some (.struct fs)) (hone : oneCellFields P fs = true)
    (hC : P.cellsOf e = m) (hm : fs.size = m) (hm0 : 0 < m) (hfs : ∀ f ∈ fs.toList, P.underlying f.type = some (.int .i64)) (h : DataW.trod enc P w base spare held fuel t cs = some x) (hz : Sized P t x.1) :
    ∃ A n c, ∃ l : List Int, cs = [.slice A n c] ∧ n ≤ c ∧ c ≤ maxLen ∧ n * P.bytesOf e ≤ reachBytes ∧ l.length = n * m ∧ Reads w w.heap.size m A n (l.map (Value.int .i64)) ∧ ∀ z ∈ l, (Lit.int .i64 z).wf = true := by
  obtain ⟨A, n, c, vs, rfl, hc, hcm, hby, hr, hi⟩ := open_reads ht hC hm0 h hz
  have hl : vs.length = n * m := hr.1
  have key : ∀ j, j < n * m → ∃ z, vs[j]? = some (.int .i64 z) ∧ (Lit.int .i64 z).wf = true := by
    intro j hj
    have hq : j / m < n := by rw [Nat.div_lt_iff_lt_mul hm0]; exact hj
    have hrm : j % m < m := Nat.mod_lt _ hm0
    obtain ⟨f, y, hy, _⟩ := hi (j / m) hq
    obtain ⟨ys, n', _, _, hlen, hyl, hf⟩ := DataW.trod_struct he hy
    have hfj : fs[j % m]? = some (fs[j % m]'(by omega)) := Array.getElem?_eq_getElem (by omega)
    obtain ⟨ho, hk⟩ := hone_of hone (j % m) _ hfj
    have h1 := hf (j % m) _ hfj
    rw [ho, hk] at h1
    have hys : ys[j % m]? = some (ys[j % m]'(by omega)) := List.getElem?_eq_getElem (by omega)
    rw [hys] at h1
    obtain ⟨z, hz1, _, hw1⟩ := DataW.trod_int (hfs _ (by simp)) h1
    refine ⟨z, ?_, hw1⟩
    have h2 : ((((vs.drop (j / m * m)).take m).drop (j % m)).take 1)[0]? = some (.int .i64 z) := by rw [hz1]; rfl
    rw [List.getElem?_take, if_pos (by omega), List.getElem?_drop, List.getElem?_take, if_pos (by omega), List.getElem?_drop] at h2
    rw [← h2]
    congr 1
    have := Nat.div_add_mod j m
    rw [Nat.mul_comm] at this
    omega
  refine ⟨A, n, c, vs.map intOf, rfl, hc, hcm, hby, by simpa using hl, ?_, ?_⟩
  · have : (vs.map intOf).map (Value.int .i64) = vs := by
      apply List.ext_getElem?
      intro j
      rcases Nat.lt_or_ge j (n * m) with hj | hj
      · obtain ⟨z, hz, _⟩ := key j hj
        simp [hz, intOf]
      · rw [List.getElem?_eq_none (by simp; omega), List.getElem?_eq_none (by omega)]
    rw [this]; exact hr
  · intro z hz
    obtain ⟨j, hj, rfl⟩ := List.mem_iff_getElem.1 hz
    have hj' : j < vs.length := by simpa using hj
    obtain ⟨z, hz, hw⟩ := key j (by omega)
    rw [List.getElem?_eq_getElem hj'] at hz
    have : vs[j] = .int .i64 z := by injection hz
    simpa [this, intOf] using hw
theorem arg_flat {r : Reach} {b0 : Nat} {t e : TypeId} {v : Value} {d : DataW H} {ps : List MemPlace} {fs : Array Field} {m : Nat} (ht : P.underlying t = some (.slice e)) (he : P.underlying e = some (.struct fs)) (hone : oneCellFields P fs = true)
    (hC : P.cellsOf e = m) (hm : fs.size = m) (hm0 : 0 < m) (hfs : ∀ f ∈ fs.toList, P.underlying f.type = some (.int .i64)) (hby : 1 ≤ P.bytesOf e)
    (hv : Value.okWide P w r b0 t v) (h : DataW.Trod enc P w base spare held t v d ps) (hz : Sized P t d) : ∃ n l, IsFlat m w w.heap.size v n l := by
  obtain ⟨a, len, cap, rfl⟩ := okWide_slice ht hv
  obtain ⟨fuel, hf⟩ := h
  obtain ⟨A, n, c, l, hcs, hc, hcm, hb, hl, hr, hw⟩ := open_flat ht he hone hC hm hm0 hfs hf hz
  simp only [Value.cells, List.cons.injEq, and_true] at hcs
  have : n * 1 ≤ n * P.bytesOf e := Nat.mul_le_mul_left _ hby
  have hr2 : reachBytes = 140737488351232 := rfl
  exact ⟨n, l, A, c, hcs, hc, hcm, by omega, hl, hr, hw⟩
end
/-- Elements of lists of ints by their first coordinates. -/
def coordOk (z : Int) : Bool := decide (-1048576 ≤ z ∧ z ≤ 1048576)
theorem coordOk_yes {z : Int} (h : coordOk z = true) : -1048576 ≤ z ∧ z ≤ 1048576 := by simpa [coordOk] using h
theorem coordOk_no {z : Int} (h : coordOk z = false) : z < -1048576 ∨ 1048576 < z := by
  rw [coordOk, decide_eq_false_iff_not] at h; omega
/-- Has a number below n the mark? -/
def anyN (p : Nat → Bool) (n : Nat) : Bool := (List.range n).any p
theorem anyN_yes {p : Nat → Bool} {n i : Nat} (hi : i < n) (h : p i = true) : anyN p n = true := by
  unfold anyN; rw [List.any_eq_true]; exact ⟨i, List.mem_range.2 hi, h⟩
theorem anyN_no {p : Nat → Bool} {n : Nat} (h : ∀ i, i < n → p i = false) : anyN p n = false := by
  unfold anyN; rw [List.any_eq_false]; intro i hi; rw [h i (List.mem_range.1 hi)]; simp
theorem anyN_false {p : Nat → Bool} {n : Nat} (h : anyN p n = false) : ∀ i, i < n → p i = false := by
  unfold anyN at h; rw [List.any_eq_false] at h
  intro i hi
  have := h i (List.mem_range.2 hi)
  simpa using this
theorem anyN_true {p : Nat → Bool} {n : Nat} (h : anyN p n = true) : ∃ i, i < n ∧ p i = true := by
  unfold anyN at h; rw [List.any_eq_true] at h
  obtain ⟨i, hi, hp⟩ := h
  exact ⟨i, List.mem_range.1 hi, hp⟩
attribute [irreducible] anyN coordOk
/-- The first number below n with the mark, or -1. -/
def FirstR (p : Nat → Bool) (n : Nat) (k : Int) : Prop := (k = -1 ∧ ∀ i, i < n → p i = false) ∨ ∃ i : Nat, i < n ∧ k = i ∧ p i = true ∧ ∀ j, j < i → p j = false
theorem FirstR.any {p : Nat → Bool} {n : Nat} {k : Int} (h : FirstR p n k) : decide (k ≥ 0) = anyN p n := by
  rcases h with ⟨rfl, h⟩ | ⟨i, hi, rfl, hp, _⟩
  · rw [anyN_no h]; rfl
  · rw [anyN_yes hi hp]; simp
theorem FirstR.bd {p : Nat → Bool} {n : Nat} {k : Int} (h : FirstR p n k) : -1 ≤ k ∧ k < n := by
  rcases h with ⟨rfl, h⟩ | ⟨i, hi, rfl, hp, _⟩ <;> omega
theorem FirstR.ex (p : Nat → Bool) : ∀ n, ∃ k, FirstR p n k
  | 0 => ⟨-1, .inl ⟨rfl, fun i hi => absurd hi (by omega)⟩⟩
  | n + 1 => by
    obtain ⟨k, hk⟩ := FirstR.ex p n
    rcases hk with ⟨rfl, h⟩ | ⟨i, hi, rfl, hp, hj⟩
    · cases hn : p n
      · exact ⟨-1, .inl ⟨rfl, fun i hi => by rcases Nat.lt_or_ge i n with h1 | h1; exact h i h1; rw [show i = n from by omega]; exact hn⟩⟩
      · exact ⟨n, .inr ⟨n, by omega, rfl, hn, h⟩⟩
    · exact ⟨i, .inr ⟨i, by omega, rfl, hp, hj⟩⟩
theorem FirstR.is {p : Nat → Bool} {n i : Nat} {k : Int} (h : FirstR p n k) (hi : i < n) (hp : p i = true) (hno : ∀ j, j < i → p j = false) : k = i := by
  rcases h with ⟨rfl, h⟩ | ⟨i', hi', rfl, hp', hno'⟩
  · rw [h i hi] at hp; cases hp
  · rcases Nat.lt_trichotomy i i' with h | h | h
    · rw [hno' i h] at hp; cases hp
    · rw [h]
    · rw [hno i' h] at hp'; cases hp'
theorem FirstR.none_ {p : Nat → Bool} {n : Nat} {k : Int} (h : FirstR p n k) (hno : ∀ j, j < n → p j = false) : k = -1 := by
  rcases h with ⟨rfl, h⟩ | ⟨i', hi', rfl, hp', hno'⟩
  · rfl
  · rw [hno i' hi'] at hp'; cases hp'
theorem no_step {p : Nat → Bool} {i : Nat} (h : ∀ j, j < i → p j = false) (hi : p i = false) : ∀ j, j < i + 1 → p j = false := by
  intro j hj
  rcases Nat.lt_or_ge j i with h1 | h1
  · exact h j h1
  · rw [show j = i from by omega]; exact hi
theorem not3_cases {x y z b : Bool} (h : (!(x && (y && z))) = b) : (b = true ∧ x = false) ∨ (b = true ∧ x = true ∧ y = false) ∨ (b = true ∧ x = true ∧ y = true ∧ z = false) ∨ (b = false ∧ x = true ∧ y = true ∧ z = true) := by
  subst h; cases x <;> cases y <;> cases z <;> simp
end Go.Dam

/-
  append onto a row of the call's own at a step of a region that draws its order. Conditions: none; nothing here names the program.
-/
namespace Go.Dam
open Go Go.RowKit Go.ChangeShapes Go.WideShapes Go.Joins Go.Deep
set_option linter.unusedVariables false
section
variable {P : Program} {w : World}
/-- append of m elements at a step of a region that draws. -/
theorem step_pushM {T E : TypeId} {z : Value} {size bytes : Nat} (el : El P T E z size bytes) {ops : Array Oper} {o : Oper} {a : Act} {K : Act → World → Prop} {Q : Exit → Act → World → Prop} {Ep : Prop} (hgd : o.guard = none) (s x : Operand)
    (ho : o.op = .call { callee := .builtin .append, args := #[s, x], argTypes := #[T, T] })
    (base : Nat) (v : Value) (n : Nat) (xs : List Value) (hown : w.ownsRow base E size v n xs) (hs : a.eval s = v)
    (ad : Addr) (m c : Nat) (news : List Value) (hx : a.eval x = .slice (some ad) m c) (hl : news.length = m * size) (hnews : ∀ j u, news[j]? = some u → w.cell? (ad.add j) = some u) (h1 : ∀ u ∈ news, u.oneCell' = true)
    (h63 : n + m ≤ 140737488355328) (hbytes : (n + m) * bytes ≤ 140737488355328) (hbase : base ≤ w.heap.size)
    (h : ∀ v' w', w'.ownsRow base E size v' (n + m) (xs ++ news) → w.grownBy w' v.ownBlock → LiesOr w.heap.size v v' → K (a.put o.dst v') w') :
    if Region.wanted o (yielded ops a.tmps) = true then Oper.wp P o a w K Q else Ep := by
  have hw : Region.wanted o (yielded ops a.tmps) = true := by simp [Region.wanted, hgd]
  rw [if_pos hw]
  obtain ⟨i, hi, hz, hz1, hz2⟩ := el.info
  obtain ⟨v', w', hr, h2, h3, h4⟩ := run_append_own (P := P) w base T o.type E i z size bytes el.ht hi hz hz1 hz2 el.hz el.hs v n xs hown ad m c news hl hnews h1 (by unfold maxLen; omega) hbytes hbase
  have h5 := run_append_lies (P := P) T o.type E i z size bytes base el.ht hi hz hz1 hz2 el.hz el.hs v n xs hown ad m c news hl hnews h1 (by unfold maxLen; omega) hbytes hbase v' w' hr
  unfold Oper.wp execOp
  simp only [ho, resolve, invoke, builtin, Sem.run_bind, Sem.run_pure, Result.andThen_ok, List.map_toArray, List.map_cons, List.map_nil, hs, hx, hr]
  exact h v' w' h2 h3 h5
/-- append of one element of one cell, which lies in block g, at a step of a region that draws. -/
theorem step_pushD {T E : TypeId} {z : Value} {bytes : Nat} (el : El P T E z 1 bytes) {ops : Array Oper} {o : Oper} {a : Act} {K : Act → World → Prop} {Q : Exit → Act → World → Prop} {Ep : Prop} (hgd : o.guard = none) (s x : Operand)
    (ho : o.op = .call { callee := .builtin .append, args := #[s, x], argTypes := #[T, T] })
    (base : Nat) (v : Value) (n : Nat) (xs : List Value) (hown : w.ownsRow base E 1 v n xs) (hs : a.eval s = v)
    (g c : Nat) (u : Value) (hx : a.eval x = .slice (some ⟨g, 0, none⟩) 1 c) (hu : w.cell? ⟨g, 0, none⟩ = some u) (h1 : u.oneCell' = true)
    (h63 : n + 1 ≤ 140737488355328) (hbytes : (n + 1) * bytes ≤ 140737488355328) (hbase : base ≤ w.heap.size)
    (h : ∀ v' w', w'.ownsRow base E 1 v' (n + 1) (xs ++ [u]) → w.grownBy w' v.ownBlock → LiesOr w.heap.size v v' → K (a.put o.dst v') w') :
    if Region.wanted o (yielded ops a.tmps) = true then Oper.wp P o a w K Q else Ep := by
  refine step_pushM el hgd s x ho base v n xs hown hs ⟨g, 0, none⟩ 1 c [u] hx rfl ?_ ?_ h63 hbytes hbase h
  · intro j y hj
    cases j with
    | zero => simp at hj; subst hj; exact hu
    | succ j => simp at hj
  · intro y hy
    simp at hy; subst hy; exact h1
end
end Go.Dam

/-
  Plain maps of places, no program in sight: what exchanging two ranges, turning a range, and moving one element do. Conditions: bounds on the places.
-/
namespace Go.Dam.Stable
set_option linter.unusedVariables false
/-- Two places exchanged. -/
def swI (i j k : Nat) : Nat := if k = i then j else if k = j then i else k
/-- Two ranges of n places exchanged. -/
def srI (a b n k : Nat) : Nat := if a ≤ k ∧ k < a + n then k - a + b else if b ≤ k ∧ k < b + n then k - b + a else k
/-- The part from m on put ahead of the part from a on. -/
def rotI (a m b k : Nat) : Nat := if a ≤ k ∧ k < b then (if k < a + (b - m) then k - a + m else k - (b - m)) else k
theorem srI_0 (a b k : Nat) : srI a b 0 k = k := by
  unfold srI
  repeat' split
  all_goals omega
theorem srI_step {a b n : Nat} (h : a + (n + 1) ≤ b) (k : Nat) : srI a b (n + 1) k = srI a b n (swI (a + n) (b + n) k) := by
  unfold srI swI
  repeat' split
  all_goals omega
theorem rot_gt {m i j : Nat} (hi : i ≤ m) (h : j < i) (hj : 0 < j) (k : Nat) : rotI (m - i) m (m + j) k = srI (m - i) m j (rotI (m - (i - j)) m (m + j) k) := by
  unfold rotI srI
  repeat' split
  all_goals omega
theorem rot_lt {m i j : Nat} (hi : i ≤ m) (h : i < j) (h0 : 0 < i) (k : Nat) : rotI (m - i) m (m + j) k = srI (m - i) (m + j - i) i (rotI (m - i) m (m + (j - i)) k) := by
  unfold rotI srI
  repeat' split
  all_goals omega
theorem rot_eq {m i : Nat} (hi : i ≤ m) (k : Nat) : rotI (m - i) m (m + i) k = srI (m - i) m i k := by
  unfold rotI srI
  repeat' split
  all_goals omega
theorem rot_none {a b : Nat} (k : Nat) : rotI a a b k = k ∨ a ≤ k ∧ k < b := by
  unfold rotI
  repeat' split
  all_goals omega
theorem rot_up_0 (a k : Nat) : rotI a (a + 1) (a + 1) k = k := by
  unfold rotI
  repeat' split
  all_goals omega
theorem rot_up {a t : Nat} (h : a < t) (k : Nat) : rotI a (a + 1) (t + 1) k = rotI a (a + 1) t (swI (t - 1) t k) := by
  unfold rotI swI
  repeat' split
  all_goals omega
theorem rot_down_0 (m k : Nat) : rotI m m (m + 1) k = k := by
  unfold rotI
  repeat' split
  all_goals omega
theorem rot_down {t m : Nat} (h0 : 0 < t) (h : t ≤ m) (k : Nat) : rotI (t - 1) m (m + 1) k = rotI t m (m + 1) (swI t (t - 1) k) := by
  unfold rotI swI
  repeat' split
  all_goals omega
theorem rot_in {a m b k : Nat} (h1 : a ≤ m) (h2 : m ≤ b) : (a ≤ k ∧ k < b → a ≤ rotI a m b k ∧ rotI a m b k < b) ∧ (¬ (a ≤ k ∧ k < b) → rotI a m b k = k) := by
  unfold rotI
  repeat' split
  all_goals omega
end Go.Dam.Stable

/-
  The plain law of merging two sorted parts in place (SymMerge), no program in sight: whatever the program's searches found, the parts that it turns leave all of the left half ahead of all of the right half. Conditions: a strict order of the elements; a test that agrees with it wherever an element of the right part is tested against one of the left part.
-/
namespace Go.Dam.Stable
set_option linter.unusedVariables false
variable {α : Type} {T : α → α → Prop}
/-- Sorted from a up to b. -/
def Srt (T : α → α → Prop) (F : Nat → α) (a b : Nat) : Prop := ∀ i j, a ≤ i → i < j → j < b → T (F i) (F j)
/-- All from a to m stand ahead of all from m to b. -/
def Sep (T : α → α → Prop) (F : Nat → α) (a m b : Nat) : Prop := ∀ i j, a ≤ i → i < m → m ≤ j → j < b → T (F i) (F j)
/-- The test of a right element against a left one tells the order. -/
def Tst (T : α → α → Prop) (lt : α → α → Bool) (F : Nat → α) (a m b : Nat) : Prop := ∀ i j, a ≤ i → i < m → m ≤ j → j < b → ((lt (F j) (F i) = true → T (F j) (F i)) ∧ (lt (F j) (F i) = false → T (F i) (F j)))
/-- G holds what F held, the places from a to b mixed among themselves. -/
def Mix (F G : Nat → α) (a b : Nat) : Prop := (∀ k, a ≤ k → k < b → ∃ k', a ≤ k' ∧ k' < b ∧ G k = F k') ∧ ∀ k, ¬ (a ≤ k ∧ k < b) → G k = F k
theorem Mix.refl (F : Nat → α) (a b : Nat) : Mix F F a b := ⟨fun k h1 h2 => ⟨k, h1, h2, rfl⟩, fun k _ => rfl⟩
theorem Mix.trans {F G H : Nat → α} {a b : Nat} (h : Mix F G a b) (g : Mix G H a b) : Mix F H a b :=
  ⟨fun k h1 h2 => by
    obtain ⟨k', e1, e2, e3⟩ := g.1 k h1 h2
    obtain ⟨k2, f1, f2, f3⟩ := h.1 k' e1 e2
    exact ⟨k2, f1, f2, e3.trans f3⟩, fun k hk => (g.2 k hk).trans (h.2 k hk)⟩
theorem Mix.wide {F G : Nat → α} {a b a' b' : Nat} (h : Mix F G a b) (h1 : a' ≤ a) (h2 : b ≤ b') : Mix F G a' b' :=
  ⟨fun k e1 e2 => by
    by_cases hk : a ≤ k ∧ k < b
    · obtain ⟨k', f1, f2, f3⟩ := h.1 k hk.1 hk.2
      exact ⟨k', by omega, by omega, f3⟩
    · exact ⟨k, e1, e2, h.2 k hk⟩, fun k hk => h.2 k (by omega)⟩
theorem Mix.of_map {F G : Nat → α} {φ : Nat → Nat} {a b : Nat} (h : ∀ k, G k = F (φ k)) (h1 : ∀ k, (a ≤ k ∧ k < b → a ≤ φ k ∧ φ k < b) ∧ (¬ (a ≤ k ∧ k < b) → φ k = k)) : Mix F G a b :=
  ⟨fun k e1 e2 => ⟨φ k, ((h1 k).1 ⟨e1, e2⟩).1, ((h1 k).1 ⟨e1, e2⟩).2, h k⟩, fun k hk => by rw [h k, (h1 k).2 hk]⟩
theorem Mix.same {F G : Nat → α} {a b k : Nat} (h : Mix F G a b) (hk : ¬ (a ≤ k ∧ k < b)) : G k = F k := h.2 k hk
theorem Srt.keep {F G : Nat → α} {a b c d : Nat} (h : Srt T F c d) (g : Mix F G a b) (hd : d ≤ a ∨ b ≤ c) : Srt T G c d := fun i j h1 h2 h3 => by
  rw [g.2 i (by omega), g.2 j (by omega)]; exact h i j h1 h2 h3
theorem Srt.sub {F : Nat → α} {a b c d : Nat} (h : Srt T F a b) (h1 : a ≤ c) (h2 : d ≤ b) : Srt T F c d := fun i j e1 e2 e3 => h i j (by omega) e2 (by omega)
theorem Srt.one (F : Nat → α) {a b : Nat} (h : b ≤ a + 1) : Srt T F a b := fun i j h1 h2 h3 => absurd h2 (by omega)
/-- Two sorted parts, one ahead of the other. -/
theorem Srt.join {F : Nat → α} {a m b : Nat} (h1 : Srt T F a m) (h2 : Srt T F m b) (h3 : Sep T F a m b) : Srt T F a b := fun i j e1 e2 e3 => by
  rcases Nat.lt_or_ge j m with g | g
  · exact h1 i j e1 e2 g
  · rcases Nat.lt_or_ge i m with g2 | g2
    · exact h3 i j e1 g2 g e3
    · exact h2 i j g2 e2 e3
theorem Sep.mixL {F G : Nat → α} {a m b : Nat} (h : Sep T F a m b) (g : Mix F G a m) : Sep T G a m b := fun i j h1 h2 h3 h4 => by
  obtain ⟨k, e1, e2, e3⟩ := g.1 i h1 h2
  rw [e3, g.2 j (by omega)]
  exact h k j e1 e2 h3 h4
theorem Sep.mixR {F G : Nat → α} {a m b : Nat} (h : Sep T F a m b) (g : Mix F G m b) : Sep T G a m b := fun i j h1 h2 h3 h4 => by
  obtain ⟨k, e1, e2, e3⟩ := g.1 j h3 h4
  rw [e3, g.2 i (by omega)]
  exact h i k h1 h2 e1 e2
section
variable (tr : ∀ x y z, T x y → T y z → T x z)
include tr
/-- T of neighbours in a sorted part, or the same. -/
theorem Srt.le {F : Nat → α} {a b i j : Nat} (h : Srt T F a b) (h1 : a ≤ i) (h2 : i ≤ j) (h3 : j < b) {z : α} (g : T (F j) z) : T (F i) z := by
  rcases Nat.lt_or_ge i j with e | e
  · exact tr _ _ _ (h i j h1 e h3) g
  · rwa [show i = j from by omega]
theorem Srt.ge {F : Nat → α} {a b i j : Nat} (h : Srt T F a b) (h1 : a ≤ i) (h2 : i ≤ j) (h3 : j < b) {z : α} (g : T z (F i)) : T z (F j) := by
  rcases Nat.lt_or_ge i j with e | e
  · exact tr _ _ _ g (h i j h1 e h3)
  · rwa [show j = i from by omega]
/-- The one left element goes to its place. -/
theorem merge_left {F G : Nat → α} {lt : α → α → Bool} {a b i : Nat} (hs : Srt T F (a + 1) b) (ht : Tst T lt F a (a + 1) b) (h1 : a + 1 ≤ i) (h2 : i ≤ b)
    (hlo : i = a + 1 ∨ lt (F (i - 1)) (F a) = true) (hhi : i = b ∨ lt (F i) (F a) = false) (hG : ∀ k, G k = F (rotI a (a + 1) i k)) : Srt T G a b := fun p q e1 e2 e3 => by
  have below : ∀ k, a + 1 ≤ k → k < i → T (F k) (F a) := fun k g1 g2 => by
    have hx : T (F (i - 1)) (F a) := by
      rcases hlo with h | h
      · omega
      · exact (ht a (i - 1) (Nat.le_refl _) (by omega) (by omega) (by omega)).1 h
    exact hs.le tr g1 (by omega) (by omega) hx
  have above : ∀ k, i ≤ k → k < b → T (F a) (F k) := fun k g1 g2 => by
    have hx : T (F a) (F i) := by
      rcases hhi with h | h
      · omega
      · exact (ht a i (Nat.le_refl _) (by omega) (by omega) (by omega)).2 h
    exact hs.ge tr (by omega) g1 g2 hx
  have e : ∀ k, (a ≤ k → k < i - 1 → G k = F (k + 1)) ∧ (k = i - 1 → G k = F a) ∧ (i ≤ k → G k = F k) := fun k => by
    refine ⟨fun g1 g2 => ?_, fun g1 => ?_, fun g1 => ?_⟩ <;> rw [hG k] <;> congr 1 <;> unfold rotI <;> (repeat' split) <;> omega
  rcases Nat.lt_or_ge p (i - 1) with c1 | c1
  · rw [(e p).1 e1 c1]
    rcases Nat.lt_or_ge q (i - 1) with c2 | c2
    · rw [(e q).1 (by omega) c2]; exact hs (p + 1) (q + 1) (by omega) (by omega) (by omega)
    · by_cases c3 : q = i - 1
      · rw [(e q).2.1 c3]; exact below (p + 1) (by omega) (by omega)
      · rw [(e q).2.2 (by omega)]; exact hs (p + 1) q (by omega) (by omega) e3
  · by_cases c3 : p = i - 1
    · rw [(e p).2.1 c3, (e q).2.2 (by omega)]; exact above q (by omega) e3
    · rw [(e p).2.2 (by omega), (e q).2.2 (by omega)]; exact hs p q (by omega) e2 e3
/-- The one right element goes to its place. -/
theorem merge_right {F G : Nat → α} {lt : α → α → Bool} {a m i : Nat} (hs : Srt T F a m) (ht : Tst T lt F a m (m + 1)) (h1 : a ≤ i) (h2 : i ≤ m)
    (hlo : i = a ∨ lt (F m) (F (i - 1)) = false) (hhi : i = m ∨ lt (F m) (F i) = true) (hG : ∀ k, G k = F (rotI i m (m + 1) k)) : Srt T G a (m + 1) := fun p q e1 e2 e3 => by
  have below : ∀ k, a ≤ k → k < i → T (F k) (F m) := fun k g1 g2 => by
    have hx : T (F (i - 1)) (F m) := by
      rcases hlo with h | h
      · omega
      · exact (ht (i - 1) m (by omega) (by omega) (Nat.le_refl _) (by omega)).2 h
    exact hs.le tr g1 (by omega) (by omega) hx
  have above : ∀ k, i ≤ k → k < m → T (F m) (F k) := fun k g1 g2 => by
    have hx : T (F m) (F i) := by
      rcases hhi with h | h
      · omega
      · exact (ht i m (by omega) (by omega) (Nat.le_refl _) (by omega)).1 h
    exact hs.ge tr (by omega) g1 g2 hx
  have e : ∀ k, (k < i → G k = F k) ∧ (k = i → G k = F m) ∧ (i < k → k < m + 1 → G k = F (k - 1)) := fun k => by
    refine ⟨fun g1 => ?_, fun g1 => ?_, fun g1 g2 => ?_⟩ <;> rw [hG k] <;> congr 1 <;> unfold rotI <;> (repeat' split) <;> omega
  rcases Nat.lt_or_ge p i with c1 | c1
  · rw [(e p).1 c1]
    rcases Nat.lt_or_ge q i with c2 | c2
    · rw [(e q).1 c2]; exact hs p q e1 e2 (by omega)
    · by_cases c3 : q = i
      · rw [(e q).2.1 c3]; exact below p e1 c1
      · rw [(e q).2.2 (by omega) e3]; exact hs p (q - 1) e1 (by omega) (by omega)
  · by_cases c3 : p = i
    · rw [(e p).2.1 c3, (e q).2.2 (by omega) e3]; exact above (q - 1) (by omega) (by omega)
    · rw [(e p).2.2 (by omega) (by omega), (e q).2.2 (by omega) e3]; exact hs (p - 1) (q - 1) (by omega) (by omega) (by omega)
/-- What turning leaves: the left half ahead of the right half, each of them two sorted parts that can be merged. -/
theorem merge_mid {F G : Nat → α} {lt : α → α → Bool} {a m b mid start : Nat} (hl : Srt T F a m) (hr : Srt T F m b) (ht : Tst T lt F a m b) (ham : a < m) (hmb : m < b) (hmid : mid = (a + b) / 2)
    (hs1 : a ≤ start) (hs2 : mid + m ≤ b + start) (hs3 : start ≤ mid) (hs4 : start ≤ m)
    (hlo : start = a ∨ mid + m = b + start ∨ lt (F (mid + m - start)) (F (start - 1)) = false) (hhi : start = mid ∨ start = m ∨ lt (F (mid + m - 1 - start)) (F start) = true)
    (hG : ∀ k, G k = F (rotI start m (mid + m - start) k)) :
    Sep T G a mid b ∧ Srt T G a start ∧ Srt T G start mid ∧ Srt T G mid (mid + m - start) ∧ Srt T G (mid + m - start) b ∧ Tst T lt G a start mid ∧ Tst T lt G mid (mid + m - start) b := by
  have e : ∀ k, (k < start → G k = F k) ∧ (start ≤ k → k < mid → G k = F (k - start + m)) ∧ (mid ≤ k → k < mid + m - start → G k = F (k - (mid - start))) ∧ (mid + m - start ≤ k → G k = F k) := fun k => by
    refine ⟨fun g1 => ?_, fun g1 g2 => ?_, fun g1 g2 => ?_, fun g1 => ?_⟩ <;> rw [hG k] <;> congr 1 <;> unfold rotI <;> (repeat' split) <;> omega
  -- ahead: the left part's first ones; then the right part's first ones; then the left part's last ones; then the right part's last ones
  have low : ∀ i j, a ≤ i → i < start → mid + m - start ≤ j → j < b → T (F i) (F j) := fun i j g1 g2 g3 g4 => by
    have hx : T (F (start - 1)) (F (mid + m - start)) := by
      rcases hlo with h | h | h
      · omega
      · omega
      · exact (ht (start - 1) (mid + m - start) (by omega) (by omega) (by omega) (by omega)).2 h
    exact hl.le tr g1 (show i ≤ start - 1 by omega) (by omega) (hr.ge tr (show m ≤ mid + m - start by omega) g3 g4 hx)
  have high : ∀ i j, m ≤ i → i < mid + m - start → start ≤ j → j < m → T (F i) (F j) := fun i j g1 g2 g3 g4 => by
    have hx : T (F (mid + m - 1 - start)) (F start) := by
      rcases hhi with h | h | h
      · omega
      · omega
      · exact (ht start (mid + m - 1 - start) (by omega) (by omega) (by omega) (by omega)).1 h
    exact hr.le tr g1 (show i ≤ mid + m - 1 - start by omega) (by omega) (hl.ge tr hs1 g3 g4 hx)
  refine ⟨fun i j g1 g2 g3 g4 => ?_, fun i j g1 g2 g3 => ?_, fun i j g1 g2 g3 => ?_, fun i j g1 g2 g3 => ?_, fun i j g1 g2 g3 => ?_, fun i j g1 g2 g3 g4 => ?_, fun i j g1 g2 g3 g4 => ?_⟩
  · rcases Nat.lt_or_ge i start with c1 | c1
    · rw [(e i).1 c1]
      rcases Nat.lt_or_ge j (mid + m - start) with c2 | c2
      · rw [(e j).2.2.1 g3 c2]; exact hl i _ g1 (by omega) (by omega)
      · rw [(e j).2.2.2 c2]; exact low i j g1 c1 c2 g4
    · rw [(e i).2.1 c1 g2]
      rcases Nat.lt_or_ge j (mid + m - start) with c2 | c2
      · rw [(e j).2.2.1 g3 c2]; exact high _ _ (by omega) (by omega) (by omega) (by omega)
      · rw [(e j).2.2.2 c2]; exact hr _ j (by omega) (by omega) g4
  · rw [(e i).1 (by omega), (e j).1 g3]; exact hl i j g1 g2 (by omega)
  · rw [(e i).2.1 g1 (by omega), (e j).2.1 (by omega) g3]; exact hr _ _ (by omega) (by omega) (by omega)
  · rw [(e i).2.2.1 g1 (by omega), (e j).2.2.1 (by omega) g3]; exact hl _ _ (by omega) (by omega) (by omega)
  · rw [(e i).2.2.2 g1, (e j).2.2.2 (by omega)]; exact hr i j (by omega) g2 g3
  · rw [(e i).1 g2, (e j).2.1 g3 g4]; exact ht i _ g1 (by omega) (by omega) (by omega)
  · rw [(e i).2.2.1 g1 g2, (e j).2.2.2 g3]; exact ht _ j (by omega) (by omega) (by omega) g4
end
end Go.Dam.Stable

/-
  The plain law of the library's insertion sort over a test that tells a strict order where a later element is tested against an earlier one; and what permuting a part leaves. No program in sight. Conditions: bounds.
-/
namespace Go.Dam.Stable
open Go.Sort
set_option linter.unusedVariables false
set_option linter.unusedSectionVars false
variable {α : Type} [Inhabited α] {T : α → α → Prop}
/-- What a row holds. -/
def G (d : Array α) (k : Nat) : α := d[k]!
/-- A test of a later element against an earlier one tells the order. -/
def Tst0 (T : α → α → Prop) (lt : α → α → Bool) (F : Nat → α) (a b : Nat) : Prop := ∀ p q, a ≤ p → p < q → q < b → ((lt (F q) (F p) = true → T (F q) (F p)) ∧ (lt (F q) (F p) = false → T (F p) (F q)))
theorem Tst0.sub {lt : α → α → Bool} {F : Nat → α} {a b c d : Nat} (h : Tst0 T lt F a b) (h1 : a ≤ c) (h2 : d ≤ b) : Tst0 T lt F c d := fun p q e1 e2 e3 => h p q (by omega) e2 (by omega)
/-- Whatever stands in a permuted part stood in it. -/
theorem PermIn_from {a b : Nat} {d d' : Array α} (hb : b ≤ d.size) (h : PermIn a b d d') : ∀ k, a ≤ k → k < b → ∃ k', a ≤ k' ∧ k' < b ∧ G d' k = G d k' :=
  permIn_all d d' a b (fun x => ∃ k', a ≤ k' ∧ k' < b ∧ x = G d k') hb h fun i h1 h2 => ⟨i, h1, h2, rfl⟩
theorem PermIn_out {a b k : Nat} {d d' : Array α} (h : PermIn a b d d') (hk : k < a ∨ b ≤ k) : G d' k = G d k := h.2.1 k hk
theorem PermIn_mix {a b : Nat} {d d' : Array α} (hb : b ≤ d.size) (h : PermIn a b d d') : Mix (G d) (G d') a b := ⟨PermIn_from hb h, fun k hk => PermIn_out h (by omega)⟩
theorem swp_get' {d : Array α} {i j : Nat} (hi : i < d.size) (hj : j < d.size) (k : Nat) : G (swp d i j) k = G d (swI i j k) := by
  unfold G swI
  by_cases hij : i = j
  · subst hij
    rcases Decidable.em (k = i) with rfl | h
    · rw [if_pos rfl, swp_right d k k hi]
    · rw [if_neg h, if_neg h, swp_other d i i k h h]
  · by_cases h1 : k = i
    · rw [if_pos h1, h1, swp_left d i j hi hij]
    · by_cases h2 : k = j
      · rw [if_neg h1, if_pos h2, h2, swp_right d i j hj]
      · rw [if_neg h1, if_neg h2, swp_other d i j k h1 h2]
section
variable (tr : ∀ x y z, T x y → T y z → T x z)
include tr
theorem ins_stop {F : Nat → α} {a i j : Nat} (h1 : Srt T F a j) (h2 : Srt T F (j + 1) (i + 1)) (h3 : ∀ p q, a ≤ p → p < j → j < q → q ≤ i → T (F p) (F q)) (h4 : ∀ q, j < q → q ≤ i → T (F j) (F q))
    (hj : j ≤ a ∨ T (F (j - 1)) (F j)) : Srt T F a (i + 1) := fun p q e1 e2 e3 => by
  rcases Nat.lt_trichotomy q j with g | g | g
  · exact h1 p q e1 e2 g
  · subst g
    rcases hj with hj | hj
    · omega
    · exact h1.le tr e1 (show p ≤ q - 1 by omega) (by omega) hj
  · rcases Nat.lt_trichotomy p j with g2 | g2 | g2
    · exact h3 p q e1 g2 g (by omega)
    · subst g2; exact h4 q g (by omega)
    · exact h2 p q g2 e2 e3
theorem ins_inner {lt : α → α → Bool} {a i : Nat} : ∀ (j : Nat) (d : Array α), j ≤ i → i < d.size → a ≤ j → Srt T (G d) a j → Srt T (G d) (j + 1) (i + 1) → (∀ p q, a ≤ p → p < j → j < q → q ≤ i → T (G d p) (G d q)) → (∀ q, j < q → q ≤ i → T (G d j) (G d q)) →
    (∀ p, a ≤ p → p < j → (lt (G d j) (G d p) = true → T (G d j) (G d p)) ∧ (lt (G d j) (G d p) = false → T (G d p) (G d j))) → Srt T (G (insInner lt a j d)) a (i + 1) ∧ PermIn a (i + 1) d (insInner lt a j d)
  | 0, d, hji, hi, haj, h1, h2, h3, h4, h5 => ⟨by rw [insInner]; exact ins_stop tr h1 h2 h3 h4 (.inl (Nat.zero_le _)), by rw [insInner]; exact permIn_refl _ _ _⟩
  | j + 1, d, hji, hi, haj, h1, h2, h3, h4, h5 => by
    rw [insInner]
    by_cases hja : a < j + 1
    · cases hl : lt d[j + 1]! d[j]! with
      | false =>
        rw [if_neg (by simp)]
        exact ⟨ins_stop tr h1 h2 h3 h4 (.inr ((h5 j (by omega) (by omega)).2 hl)), permIn_refl _ _ _⟩
      | true =>
        rw [if_pos (by simp; omega)]
        have hT : T (G d (j + 1)) (G d j) := (h5 j (by omega) (by omega)).1 hl
        have sw : ∀ k, G (swp d (j + 1) j) k = G d (swI (j + 1) j k) := swp_get' (by omega) (by omega)
        have s1 : G (swp d (j + 1) j) (j + 1) = G d j := by rw [sw]; unfold swI; rw [if_pos rfl]
        have s0 : G (swp d (j + 1) j) j = G d (j + 1) := by rw [sw]; unfold swI; rw [if_neg (by omega), if_pos rfl]
        have so : ∀ k, (k < j ∨ j + 1 < k) → G (swp d (j + 1) j) k = G d k := fun k c => by rw [sw]; unfold swI; rw [if_neg (by omega), if_neg (by omega)]
        have hp := swp_permIn d a (i + 1) (j + 1) j (by omega) (by omega) (by omega) (by omega) (by omega)
        obtain ⟨r1, r2⟩ := ins_inner (lt := lt) (a := a) (i := i) j (swp d (j + 1) j) (by omega) (by rw [Go.Sort.size_swp]; exact hi) (by omega)
          (fun p q e1 e2 e3 => by rw [so p (.inl (by omega)), so q (.inl (by omega))]; exact h1 p q e1 e2 (by omega))
          (fun p q e1 e2 e3 => by
            rw [so q (.inr (by omega))]
            by_cases g : p = j + 1
            · rw [g, s1]; exact h3 j q (by omega) (by omega) (by omega) (by omega)
            · rw [so p (.inr (by omega))]; exact h2 p q (by omega) e2 e3)
          (fun p q e1 e2 e3 e4 => by
            rw [so p (.inl (by omega))]
            by_cases g : q = j + 1
            · rw [g, s1]; exact h1 p j e1 e2 (by omega)
            · rw [so q (.inr (by omega))]; exact h3 p q e1 (by omega) (by omega) e4)
          (fun q e3 e4 => by
            rw [s0]
            by_cases g : q = j + 1
            · rw [g, s1]; exact hT
            · rw [so q (.inr (by omega))]; exact h4 q (by omega) e4)
          (fun p e1 e2 => by rw [s0, so p (.inl (by omega))]; exact h5 p e1 (by omega))
        exact ⟨r1, permIn_trans _ _ _ _ _ hp r2⟩
    · rw [if_neg (by simp; omega)]
      exact ⟨ins_stop tr h1 h2 h3 h4 (.inl (by omega)), permIn_refl _ _ _⟩
theorem ins_outer {lt : α → α → Bool} {a b : Nat} {d0 : Array α} (ht : Tst0 T lt (G d0) a b) (hb : b ≤ d0.size) : ∀ (t i : Nat) (d : Array α), i + t = b → a < i → PermIn a i d0 d → Srt T (G d) a i →
    PermIn a b d0 (insOuter lt a b i d) ∧ Srt T (G (insOuter lt a b i d)) a b
  | 0, i, d, hi, hai, hp, hs => by
    rw [insOuter, if_neg (by omega)]
    obtain rfl : i = b := by omega
    exact ⟨hp, hs⟩
  | t + 1, i, d, hi, hai, hp, hs => by
    rw [insOuter, if_pos (by omega)]
    have hsz : d.size = d0.size := hp.1
    have hx : G d i = G d0 i := PermIn_out hp (.inr (Nat.le_refl _))
    obtain ⟨r1, r2⟩ := ins_inner tr (lt := lt) (a := a) (i := i) i d (Nat.le_refl _) (by omega) (by omega) hs (Srt.one _ (by omega)) (fun p q e1 e2 e3 e4 => by omega) (fun q e1 e2 => by omega) (fun p e1 e2 => by
      obtain ⟨k, k1, k2, k3⟩ := PermIn_from (by omega) hp p e1 e2
      rw [hx, k3]
      exact ht k i k1 k2 (by omega))
    have hp' := permIn_mono d0 d a i a (i + 1) (Nat.le_refl _) (by omega) (by omega) hp
    exact ins_outer ht hb t (i + 1) _ (by omega) (by omega) (permIn_trans _ _ _ _ _ hp' r2) r1
/-- The insertion sort of a part. -/
theorem ins_sort {lt : α → α → Bool} {a b : Nat} {d : Array α} (ht : Tst0 T lt (G d) a b) (hab : a ≤ b) (hb : b ≤ d.size) : PermIn a b d (insertionSort lt d a b) ∧ Srt T (G (insertionSort lt d a b)) a b := by
  unfold insertionSort
  by_cases h : a < b
  · exact ins_outer tr ht hb (b - (a + 1)) (a + 1) d (by omega) (by omega) (permIn_refl _ _ _) (Srt.one _ (by omega))
  · rw [insOuter, if_neg (by omega)]
    exact ⟨permIn_refl _ _ _, Srt.one _ (by omega)⟩
end
/-- A part is sorted, and of its own elements. -/
def Done (T : α → α → Prop) (d0 d : Array α) (lo hi : Nat) : Prop := Srt T (G d) lo hi ∧ ∀ p, lo ≤ p → p < hi → ∃ p', lo ≤ p' ∧ p' < hi ∧ G d p = G d0 p'
theorem Done.same {d0 d d' : Array α} {lo hi : Nat} (h : Done T d0 d lo hi) (he : ∀ p, lo ≤ p → p < hi → G d' p = G d p) : Done T d0 d' lo hi :=
  ⟨fun i j h1 h2 h3 => by rw [he i h1 (by omega), he j (by omega) h3]; exact h.1 i j h1 h2 h3, fun p h1 h2 => by rw [he p h1 h2]; exact h.2 p h1 h2⟩
theorem Done.far {d0 d d' : Array α} {lo hi a b : Nat} (h : Done T d0 d lo hi) (hp : PermIn a b d d') (hd : hi ≤ a ∨ b ≤ lo) : Done T d0 d' lo hi :=
  h.same fun p h1 h2 => PermIn_out hp (by omega)
theorem Done.tst {lt : α → α → Bool} {d0 d : Array α} {lo m hi n : Nat} (ht : Tst0 T lt (G d0) 0 n) (h : Done T d0 d lo m) (g : Done T d0 d m hi) (hn : hi ≤ n) : Tst T lt (G d) lo m hi := fun i j h1 h2 h3 h4 => by
  obtain ⟨i', a1, a2, a3⟩ := h.2 i h1 h2
  obtain ⟨j', b1, b2, b3⟩ := g.2 j h3 h4
  rw [a3, b3]
  exact ht i' j' (Nat.zero_le _) (by omega) (by omega)
theorem Done.merge {d0 d d' : Array α} {lo m hi : Nat} (h : Done T d0 d lo m) (g : Done T d0 d m hi) (h1 : lo ≤ m) (h2 : m ≤ hi) (hs : hi ≤ d.size) (hp : PermIn lo hi d d') (hsr : Srt T (G d') lo hi) : Done T d0 d' lo hi :=
  ⟨hsr, fun p e1 e2 => by
    obtain ⟨k, k1, k2, k3⟩ := PermIn_from hs hp p e1 e2
    rcases Nat.lt_or_ge k m with c | c
    · obtain ⟨k', a1, a2, a3⟩ := h.2 k k1 c
      exact ⟨k', a1, by omega, k3.trans a3⟩
    · obtain ⟨k', a1, a2, a3⟩ := g.2 k c k2
      exact ⟨k', by omega, a2, k3.trans a3⟩⟩
theorem Done.start {d0 d d' : Array α} {lo hi : Nat} (h : ∀ p, lo ≤ p → p < hi → G d p = G d0 p) (hs : hi ≤ d.size) (hp : PermIn lo hi d d') (hsr : Srt T (G d') lo hi) : Done T d0 d' lo hi :=
  ⟨hsr, fun p e1 e2 => by
    obtain ⟨k, k1, k2, k3⟩ := PermIn_from hs hp p e1 e2
    exact ⟨k, k1, k2, k3.trans (h k k1 k2)⟩⟩
theorem gap {c x a : Nat} (h1 : c ∣ x) (h2 : c ∣ a) (h : x < a) : x + c ≤ a := by
  obtain ⟨i, rfl⟩ := h1
  obtain ⟨j, rfl⟩ := h2
  have : i < j := Nat.lt_of_mul_lt_mul_left h
  calc c * i + c = c * (i + 1) := by rw [Nat.mul_add, Nat.mul_one]
    _ ≤ c * j := Nat.mul_le_mul_left _ this
/-- All parts of width s are done. -/
def AllDone (T : α → α → Prop) (d0 d : Array α) (s n : Nat) : Prop := PermIn 0 n d0 d ∧ ∀ x, s ∣ x → x < n → Done T d0 d x (min (x + s) n)
/-- The first pass: the parts ahead of a are done, what is behind is as it was. -/
def Pass1 (T : α → α → Prop) (d0 d : Array α) (s n a : Nat) : Prop := PermIn 0 n d0 d ∧ s ∣ a ∧ a ≤ n ∧ (∀ x, s ∣ x → x < a → Done T d0 d x (x + s)) ∧ ∀ p, a ≤ p → G d p = G d0 p
theorem Pass1.start (d : Array α) (s n : Nat) : Pass1 T d d s n 0 := ⟨permIn_refl _ _ _, Nat.dvd_zero _, Nat.zero_le _, fun x _ h => absurd h (by omega), fun p _ => rfl⟩
theorem Pass1.next {d0 d d' : Array α} {s n a : Nat} (h : Pass1 T d0 d s n a) (hn : a + s ≤ n) (hs : n ≤ d0.size) (hp : PermIn a (a + s) d d') (hsr : Srt T (G d') a (a + s)) : Pass1 T d0 d' s n (a + s) := by
  obtain ⟨h1, h2, h3, h4, h5⟩ := h
  have hsz := h1.1
  refine ⟨permIn_trans _ _ _ _ _ h1 (permIn_mono _ _ _ _ _ _ (Nat.zero_le _) hn (by omega) hp), Nat.dvd_add h2 (Nat.dvd_refl _), hn, fun x e1 e2 => ?_, fun p e => ?_⟩
  · rcases Nat.lt_or_ge x a with c | c
    · exact (h4 x e1 c).far hp (.inl (gap e1 h2 c))
    · have : x = a := by
        rcases Nat.lt_or_ge a x with c2 | c2
        · have := gap h2 e1 c2; omega
        · omega
      subst this
      exact Done.start (fun p q1 _ => h5 p q1) (by omega) hp hsr
  · rw [PermIn_out hp (.inr e)]; exact h5 p (by omega)
theorem Pass1.last {d0 d d' : Array α} {s n a : Nat} (h : Pass1 T d0 d s n a) (hn : n < a + s) (hs : n ≤ d0.size) (hp : PermIn a n d d') (hsr : Srt T (G d') a n) : AllDone T d0 d' s n := by
  obtain ⟨h1, h2, h3, h4, h5⟩ := h
  have hsz := h1.1
  refine ⟨permIn_trans _ _ _ _ _ h1 (permIn_mono _ _ _ _ _ _ (Nat.zero_le _) (Nat.le_refl _) (by omega) hp), fun x e1 e2 => ?_⟩
  rcases Nat.lt_or_ge x a with c | c
  · have := gap e1 h2 c
    rw [show min (x + s) n = x + s from by omega]
    exact (h4 x e1 c).far hp (.inl this)
  · have : x = a := by
      rcases Nat.lt_or_ge a x with c2 | c2
      · have := gap h2 e1 c2; omega
      · omega
    subst this
    rw [show min (x + s) n = n from by omega]
    exact Done.start (fun p q1 _ => h5 p q1) (by omega) hp hsr
/-- A pass of merging: ahead of a parts of the double width are done. -/
def Pass2 (T : α → α → Prop) (d0 d : Array α) (s n a : Nat) : Prop := PermIn 0 n d0 d ∧ 2 * s ∣ a ∧ a ≤ n ∧ (∀ x, 2 * s ∣ x → x < a → Done T d0 d x (x + 2 * s)) ∧ ∀ x, s ∣ x → a ≤ x → x < n → Done T d0 d x (min (x + s) n)
theorem Pass2.start {d0 d : Array α} {s n : Nat} (h : AllDone T d0 d s n) : Pass2 T d0 d s n 0 := ⟨h.1, Nat.dvd_zero _, Nat.zero_le _, fun x _ h => absurd h (by omega), fun x e _ e2 => h.2 x e e2⟩
theorem Pass2.two {d0 d : Array α} {s n a : Nat} (h : Pass2 T d0 d s n a) (hn : a + s < n) (h0 : 0 < s) : Done T d0 d a (a + s) ∧ Done T d0 d (a + s) (min (a + 2 * s) n) := by
  obtain ⟨h1, h2, h3, h4, h5⟩ := h
  have hd : s ∣ a := Nat.dvd_trans (Nat.dvd_mul_left _ _) h2
  have e1 := h5 a hd (Nat.le_refl _) (by omega)
  have e2 := h5 (a + s) (Nat.dvd_add hd (Nat.dvd_refl _)) (by omega) hn
  rw [show min (a + s) n = a + s from by omega] at e1
  rw [show a + s + s = a + 2 * s from by omega] at e2
  exact ⟨e1, e2⟩
theorem Pass2.next {d0 d d' : Array α} {s n a : Nat} (h : Pass2 T d0 d s n a) (h0 : 0 < s) (hn : a + 2 * s ≤ n) (hs : n ≤ d0.size) (hp : PermIn a (a + 2 * s) d d') (hsr : Srt T (G d') a (a + 2 * s)) : Pass2 T d0 d' s n (a + 2 * s) := by
  obtain ⟨e1, e2⟩ := h.two (by omega) h0
  rw [show min (a + 2 * s) n = a + 2 * s from by omega] at e2
  obtain ⟨h1, h2, h3, h4, h5⟩ := h
  have hsz := h1.1
  refine ⟨permIn_trans _ _ _ _ _ h1 (permIn_mono _ _ _ _ _ _ (Nat.zero_le _) hn (by omega) hp), Nat.dvd_add h2 (Nat.dvd_refl _), hn, fun x g1 g2 => ?_, fun x g1 g2 g3 => ?_⟩
  · rcases Nat.lt_or_ge x a with c | c
    · exact (h4 x g1 c).far hp (.inl (gap g1 h2 c))
    · have : x = a := by
        rcases Nat.lt_or_ge a x with c2 | c2
        · have := gap h2 g1 c2; omega
        · omega
      subst this
      exact e1.merge e2 (by omega) (by omega) (by omega) hp hsr
  · exact (h5 x g1 (by omega) g3).far hp (.inr g2)
theorem Pass2.last {d0 d d' : Array α} {s n a : Nat} (h : Pass2 T d0 d s n a) (h0 : 0 < s) (hn : n < a + 2 * s) (hm : a + s < n) (hs : n ≤ d0.size) (hp : PermIn a n d d') (hsr : Srt T (G d') a n) : AllDone T d0 d' (2 * s) n := by
  obtain ⟨e1, e2⟩ := h.two hm h0
  rw [show min (a + 2 * s) n = n from by omega] at e2
  obtain ⟨h1, h2, h3, h4, h5⟩ := h
  have hsz := h1.1
  refine ⟨permIn_trans _ _ _ _ _ h1 (permIn_mono _ _ _ _ _ _ (Nat.zero_le _) (Nat.le_refl _) (by omega) hp), fun x g1 g2 => ?_⟩
  rcases Nat.lt_or_ge x a with c | c
  · have := gap g1 h2 c
    rw [show min (x + 2 * s) n = x + 2 * s from by omega]
    exact (h4 x g1 c).far hp (.inl this)
  · have : x = a := by
      rcases Nat.lt_or_ge a x with c2 | c2
      · have := gap h2 g1 c2; omega
      · omega
    subst this
    rw [show min (x + 2 * s) n = n from by omega]
    exact e1.merge e2 (by omega) (by omega) (by omega) hp hsr
theorem Pass2.none_ {d0 d : Array α} {s n a : Nat} (h : Pass2 T d0 d s n a) (h0 : 0 < s) (hn : n < a + 2 * s) (hm : n ≤ a + s) : AllDone T d0 d (2 * s) n := by
  obtain ⟨h1, h2, h3, h4, h5⟩ := h
  refine ⟨h1, fun x g1 g2 => ?_⟩
  rcases Nat.lt_or_ge x a with c | c
  · have := gap g1 h2 c
    rw [show min (x + 2 * s) n = x + 2 * s from by omega]
    exact h4 x g1 c
  · have : x = a := by
      rcases Nat.lt_or_ge a x with c2 | c2
      · have := gap h2 g1 c2; omega
      · omega
    subst this
    have := h5 x (Nat.dvd_trans (Nat.dvd_mul_left _ _) h2) (Nat.le_refl _) g2
    rw [show min (x + s) n = n from by omega] at this
    rw [show min (x + 2 * s) n = n from by omega]
    exact this
theorem AllDone.end_ {d0 d : Array α} {s n : Nat} (h : AllDone T d0 d s n) (hn : n ≤ s) : PermIn 0 n d0 d ∧ Srt T (G d) 0 n := by
  refine ⟨h.1, ?_⟩
  rcases Nat.eq_zero_or_pos n with e | e
  · subst e; exact Srt.one _ (by omega)
  · have := (h.2 0 (Nat.dvd_zero _) e).1
    rwa [show min (0 + s) n = n from by omega] at this
end Go.Dam.Stable

/-
  The plain law of a stable sort, no program in sight: what a stable sort leaves is one list alone; and the words between a sorted array of tagged elements and that list. Conditions: none.
-/
namespace Go.Dam.Stable
open Go.Sort
set_option linter.unusedVariables false
variable {β : Type}
/-- Elements with the places that they had. -/
def tagL (l : List β) : List (Nat × β) := l.zipIdx.map fun p => (p.2, p.1)
theorem tagL_len (l : List β) : (tagL l).length = l.length := by simp [tagL]
theorem tagL_get (l : List β) (k : Nat) (h : k < l.length) : (tagL l)[k]? = some (k, l[k]) := by
  simp [tagL, List.getElem?_zipIdx, h]
theorem tagL_snd (l : List β) : (tagL l).map (·.2) = l := by
  unfold tagL
  rw [List.map_map]
  have : ((fun p : Nat × β => p.2) ∘ fun p : β × Nat => (p.2, p.1)) = Prod.fst := rfl
  rw [this, List.zipIdx_map_fst]
/-- Ahead by the order; or alike, and ahead by the place. -/
def TagT (lt : β → β → Bool) (x y : Nat × β) : Prop := lt x.2 y.2 = true ∨ (lt y.2 x.2 = false ∧ lt x.2 y.2 = false ∧ x.1 < y.1)
/-- A strict order by classes. -/
structure Weak (lt : β → β → Bool) : Prop where
  asym : ∀ x y, lt x y = true → lt y x = false
  tr : ∀ x y z, lt x y = true → lt y z = true → lt x z = true
  neg : ∀ x y z, lt x y = false → lt y z = false → lt x z = false
theorem TagT.tr {lt : β → β → Bool} (h : Weak lt) (x y z : Nat × β) (h1 : TagT lt x y) (h2 : TagT lt y z) : TagT lt x z := by
  rcases h1 with h1 | ⟨a1, a2, a3⟩
  · rcases h2 with h2 | ⟨b1, b2, b3⟩
    · exact .inl (h.tr _ _ _ h1 h2)
    · refine .inl ?_
      cases hx : lt x.2 z.2
      · have := h.neg _ _ _ hx b1
        rw [h1] at this; cases this
      · rfl
  · rcases h2 with h2 | ⟨b1, b2, b3⟩
    · refine .inl ?_
      cases hx : lt x.2 z.2
      · have := h.neg _ _ _ a1 hx
        rw [h2] at this; cases this
      · rfl
    · exact .inr ⟨h.neg _ _ _ b1 a1, h.neg _ _ _ a2 b2, by omega⟩
theorem TagT.asym {lt : β → β → Bool} (h : Weak lt) {x y : Nat × β} (h1 : TagT lt x y) : ¬ TagT lt y x := by
  rintro (h2 | ⟨b1, b2, b3⟩)
  · rcases h1 with h1 | ⟨a1, a2, a3⟩
    · have := h.asym _ _ h1; rw [h2] at this; cases this
    · rw [h2] at a1; cases a1
  · rcases h1 with h1 | ⟨a1, a2, a3⟩
    · rw [h1] at b1; cases b1
    · omega
/-- r is what a stable sort of l leaves. -/
def StabR (lt : β → β → Bool) (l r : List β) : Prop := ∃ m : List (Nat × β), m.Perm (tagL l) ∧ m.Pairwise (TagT lt) ∧ r = m.map (·.2)
theorem perm_sorted_uniq {α : Type} {T : α → α → Prop} (as : ∀ x y, T x y → ¬ T y x) : ∀ {l m : List α}, l.Perm m → l.Pairwise T → m.Pairwise T → l = m
  | [], m, h, _, _ => by rw [List.nil_perm.1 h]
  | x :: l, [], h, _, _ => by cases List.perm_nil.1 h
  | x :: l, y :: m, h, h1, h2 => by
    have hxy : x = y := by
      have m1 : x ∈ y :: m := h.mem_iff.1 (by simp)
      have m2 : y ∈ x :: l := h.mem_iff.2 (by simp)
      rcases List.mem_cons.1 m1 with e | e
      · exact e
      · rcases List.mem_cons.1 m2 with e2 | e2
        · exact e2.symm
        · exact absurd ((List.pairwise_cons.1 h2).1 x e) (as _ _ ((List.pairwise_cons.1 h1).1 y e2))
    subst hxy
    rw [perm_sorted_uniq as (List.perm_cons x |>.1 h) (List.pairwise_cons.1 h1).2 (List.pairwise_cons.1 h2).2]
theorem StabR.uniq {lt : β → β → Bool} (hw : Weak lt) {l r r' : List β} (h : StabR lt l r) (g : StabR lt l r') : r = r' := by
  obtain ⟨m, h1, h2, rfl⟩ := h
  obtain ⟨m', g1, g2, rfl⟩ := g
  rw [perm_sorted_uniq (fun _ _ => TagT.asym hw) (h1.trans g1.symm) h2 g2]
theorem StabR.len {lt : β → β → Bool} {l r : List β} (h : StabR lt l r) : r.length = l.length := by
  obtain ⟨m, h1, _, rfl⟩ := h
  rw [List.length_map, h1.length_eq, tagL_len]
theorem StabR.perm {lt : β → β → Bool} {l r : List β} (h : StabR lt l r) : r.Perm l := by
  obtain ⟨m, h1, _, rfl⟩ := h
  have := h1.map (·.2)
  rwa [tagL_snd] at this
section
variable [Inhabited β]
theorem tag_at {l : List β} {k : Nat} (h : k < l.length) : G (tagL l).toArray k = (k, l[k]) := by
  unfold G
  rw [getElem!_pos _ k (by simpa [tagL_len] using h)]
  have := tagL_get l k h
  rw [List.getElem?_eq_getElem (by rw [tagL_len]; exact h)] at this
  simpa using this
theorem tag_tst {lt : β → β → Bool} (hw : Weak lt) (l : List β) : Tst0 (TagT lt) (fun x y => lt x.2 y.2) (G (tagL l).toArray) 0 l.length := fun p q h1 h2 h3 => by
  rw [tag_at h3, tag_at (show p < l.length by omega)]
  refine ⟨fun h => .inl h, fun h => ?_⟩
  cases hx : lt l[p] l[q]
  · exact .inr ⟨h, hx, h2⟩
  · exact .inl hx
theorem stabR_of {lt : β → β → Bool} {l : List β} {d' : Array (Nat × β)} {n : Nat} (hn : n = l.length) (hp : PermIn 0 n (tagL l).toArray d') (hs : Srt (TagT lt) (G d') 0 n) : StabR lt l (d'.toList.map (·.2)) := by
  subst hn
  have hz : d'.size = l.length := by rw [hp.1]; simp [tagL_len]
  refine ⟨d'.toList, ?_, ?_, rfl⟩
  · have := hp.2.2
    rw [← hz, Array.extract_size, hz] at this
    have e : (tagL l).toArray.extract 0 l.length = (tagL l).toArray := by
      have : l.length = (tagL l).toArray.size := by simp [tagL_len]
      rw [this, Array.extract_size]
    rw [e] at this
    exact this
  · rw [List.pairwise_iff_getElem]
    intro i j hi hj hij
    have hi' : i < d'.size := by simpa using hi
    have hj' : j < d'.size := by simpa using hj
    have := hs i j (by omega) hij (by omega)
    unfold G at this
    rw [getElem!_pos d' i hi', getElem!_pos d' j hj'] at this
    simpa using this
end
end Go.Dam.Stable

/-
  Plain law on rows of bits, no program in sight: when a row is well formed (its words are as many as its length wants, and what is behind the last bit is 0), and what its bits are. Conditions: each word is below 2 to the 64th where that is wanted.
-/
namespace Go.Dam
open Go
set_option linter.unusedVariables false

/-- Bit i of a row of words. -/
def bitAt (ws : List Nat) (i : Nat) : Bool := (ws.getD (i / 64) 0).testBit (i % 64)
/-- May a row of n bits in these words be? -/
def MayBits (n : Int) (ws : List Nat) : Prop := 0 ≤ n ∧ n ≤ 4096 ∧ (ws.length : Int) = (n + 63) / 64 ∧ (n % 64 = 0 ∨ ws.getD (ws.length - 1) 0 / 2 ^ (n % 64).toNat = 0)
instance (n : Int) (ws : List Nat) : Decidable (MayBits n ws) := by unfold MayBits; infer_instance
def mayBits (n : Int) (ws : List Nat) : Bool := decide (MayBits n ws)
theorem mayBits_iff {n : Int} {ws : List Nat} : mayBits n ws = true ↔ MayBits n ws := by unfold mayBits; exact decide_eq_true_iff
theorem mayBits_false {n : Int} {ws : List Nat} : mayBits n ws = false ↔ ¬ MayBits n ws := by unfold mayBits; exact decide_eq_false_iff_not
/-- What is behind the last bit is 0, bit by bit. -/
theorem tail_zero {n : Nat} {ws : List Nat} (hn : ws.length = (n + 63) / 64) (hw : ∀ z ∈ ws, z < 18446744073709551616) :
    (n % 64 = 0 ∨ ws.getD (ws.length - 1) 0 / 2 ^ (n % 64) = 0) ↔ ∀ i, n ≤ i → i < 64 * ws.length → bitAt ws i = false := by
  constructor
  · intro h i hi hl
    unfold bitAt
    rcases h with h | h
    · omega
    · have e : i / 64 = ws.length - 1 := by omega
      rw [e]
      have hr : n % 64 ≤ i % 64 := by omega
      have h2 : ws.getD (ws.length - 1) 0 < 2 ^ (n % 64) := by
        rcases Nat.lt_or_ge (ws.getD (ws.length - 1) 0) (2 ^ (n % 64)) with h' | h'
        · exact h'
        · have := Nat.div_pos h' (Nat.two_pow_pos _); omega
      exact Nat.testBit_lt_two_pow (Nat.lt_of_lt_of_le h2 (Nat.pow_le_pow_right (by omega) hr))
  · intro h
    by_cases h0 : n % 64 = 0
    · exact .inl h0
    · right
      have hpos : 0 < ws.length := by omega
      generalize hx : ws.getD (ws.length - 1) 0 = x at *
      have hxl : x < 2 ^ 64 := by
        rw [← hx, List.getD_eq_getElem?_getD, List.getElem?_eq_getElem (by omega)]
        exact hw _ (List.getElem_mem _)
      have hb : ∀ j, n % 64 ≤ j → j < 64 → x.testBit j = false := by
        intro j h1 h2
        have := h (64 * (ws.length - 1) + j) (by omega) (by omega)
        unfold bitAt at this
        rwa [show (64 * (ws.length - 1) + j) / 64 = ws.length - 1 from by omega, show (64 * (ws.length - 1) + j) % 64 = j from by omega, hx] at this
      rw [Nat.div_eq_zero_iff]
      right
      have : x = x % 2 ^ (n % 64) := by
        apply Nat.eq_of_testBit_eq
        intro j
        rw [Nat.testBit_mod_two_pow]
        by_cases h1 : j < n % 64
        · simp [h1]
        · by_cases h2 : j < 64
          · rw [hb j (by omega) h2]; simp
          · rw [Nat.testBit_lt_two_pow (Nat.lt_of_lt_of_le hxl (Nat.pow_le_pow_right (by omega) (by omega)))]; simp
      rw [this]; exact Nat.mod_lt _ (Nat.two_pow_pos _)
/-- As the reference says it. -/
theorem mayBits_ref {n : Int} {ws : List Nat} (hw : ∀ z ∈ ws, z < 18446744073709551616) :
    MayBits n ws ↔ ¬ (n < 0 ∨ 4096 < n ∨ 64 * (ws.length : Int) < n ∨ n + 64 ≤ 64 * (ws.length : Int)) ∧ ∀ i : Nat, n.toNat ≤ i → i < 64 * ws.length → bitAt ws i = false := by
  constructor
  · rintro ⟨h1, h2, h3, h4⟩
    obtain ⟨k, rfl⟩ := Int.eq_ofNat_of_zero_le h1
    refine ⟨by omega, ?_⟩
    refine (tail_zero (n := k) (by omega) hw).1 ?_
    rcases h4 with h4 | h4
    · exact .inl (by omega)
    · exact .inr (by rwa [show ((k : Int) % 64).toNat = k % 64 from by omega] at h4)
  · rintro ⟨h1, h2⟩
    obtain ⟨k, rfl⟩ := Int.eq_ofNat_of_zero_le (by omega : 0 ≤ n)
    refine ⟨by omega, by omega, by omega, ?_⟩
    rcases (tail_zero (n := k) (by omega) hw).2 h2 with h | h
    · exact .inl (by omega)
    · exact .inr (by rwa [show ((k : Int) % 64).toNat = k % 64 from by omega])
theorem may_facts {n : Int} {ws : List Nat} (h : mayBits n ws = true) : 0 ≤ n ∧ n ≤ 4096 ∧ (ws.length : Int) = (n + 63) / 64 := by
  have := mayBits_iff.1 h
  unfold MayBits at this
  exact ⟨this.1, this.2.1, this.2.2.1⟩
attribute [irreducible] mayBits bitAt MayBits
end Go.Dam

/-
  Plain law on bits put into words, one by one: what the words hold, and that the row is well formed. Conditions: the words are as many as the bits want.
-/
namespace Go.Dam
open Go
set_option linter.unusedVariables false

theorem add_pow_bit (x k j : Nat) (h : x.testBit k = false) : (x + 2 ^ k).testBit j = (decide (j = k) || x.testBit j) := by
  have hm := mod_of_test x k
  rw [h] at hm
  simp only [Bool.false_eq_true, if_false] at hm
  have hr : x % 2 ^ k < 2 ^ k := Nat.mod_lt _ (Nat.two_pow_pos k)
  have e1 : x = 2 ^ k * (2 * (x / 2 ^ k / 2)) + x % 2 ^ k := by
    have h1 := Nat.div_add_mod x (2 ^ k)
    have h2 : 2 * (x / 2 ^ k / 2) = x / 2 ^ k := by omega
    rw [h2]; exact h1.symm
  have e2 : x + 2 ^ k = 2 ^ k * (2 * (x / 2 ^ k / 2) + 1) + x % 2 ^ k := by rw [Nat.mul_add, Nat.mul_one]; omega
  generalize x / 2 ^ k / 2 = q at *
  generalize x % 2 ^ k = r at *
  rw [e2, e1, Nat.testBit_two_pow_mul_add _ hr, Nat.testBit_two_pow_mul_add _ hr]
  by_cases hj : j < k
  · simp [hj]; omega
  · simp only [hj, if_false]
    by_cases hjk : j = k
    · subst hjk; simp [Nat.testBit_zero, Nat.add_mod]
    · obtain ⟨m, hm'⟩ : ∃ m, j - k = m + 1 := ⟨j - k - 1, by omega⟩
      rw [hm', Nat.testBit_succ, Nat.testBit_succ]
      simp [hjk]
      congr 1; omega
theorem add_pow_lt (x k : Nat) (hx : x < 18446744073709551616) (hk : k < 64) (h : x.testBit k = false) : x + 2 ^ k < 18446744073709551616 := by
  have : x + 2 ^ k < 2 ^ 64 := by
    apply Nat.lt_pow_two_of_testBit
    intro j hj
    rw [add_pow_bit x k j h, Nat.testBit_lt_two_pow (Nat.lt_of_lt_of_le hx ((Nat.pow_le_pow_right (by decide : 0 < 2) hj : 2 ^ 64 ≤ 2 ^ j)))]
    simp; omega
  exact this
theorem or_pow (x k : Nat) (hx : x < 18446744073709551616) (hk : k < 64) (h : x.testBit k = false) : bits .or .u64 (x : Int) (IntKind.u64.wrap (2 ^ k)) = ((x + 2 ^ k : Nat) : Int) := by
  rw [pow_u64 k hk]
  have h2 : 2 ^ k < 2 ^ 64 := Nat.pow_lt_pow_right (by omega) hk
  rw [or_u64 _ _ x (2 ^ k) rfl rfl hx h2]
  have : x ||| 2 ^ k = x + 2 ^ k := by
    apply Nat.eq_of_testBit_eq
    intro j
    rw [add_pow_bit x k j h, Nat.testBit_or, Nat.testBit_two_pow]
    cases x.testBit j <;> simp [eq_comm]
  rw [this]
/-- One bit more is set. -/
def setW (ws : List Nat) (i : Nat) : List Nat := ws.set (i / 64) (ws.getD (i / 64) 0 + 2 ^ (i % 64))
/-- The words behind i bits of l. -/
def packW (l : List Bool) (W : Nat) : Nat → List Nat
  | 0 => List.replicate W 0
  | i + 1 => if l.getD i false then setW (packW l W i) i else packW l W i
theorem packW_0 (l : List Bool) (W : Nat) : packW l W 0 = List.replicate W 0 := rfl
theorem packW_yes {l : List Bool} {W i : Nat} (h : l.getD i false = true) : packW l W (i + 1) = (packW l W i).set (i / 64) ((packW l W i).getD (i / 64) 0 + 2 ^ (i % 64)) := by simp only [packW, h, if_true, setW]
theorem packW_no {l : List Bool} {W i : Nat} (h : l.getD i false = false) : packW l W (i + 1) = packW l W i := by simp only [packW, h, Bool.false_eq_true, if_false]
theorem packW_length (l : List Bool) (W i : Nat) : (packW l W i).length = W := by
  induction i with
  | zero => simp [packW]
  | succ i ih =>
    simp only [packW]
    split
    · simp [setW, ih]
    · exact ih
theorem bitAt_eq (ws : List Nat) (i : Nat) : bitAt ws i = (ws.getD (i / 64) 0).testBit (i % 64) := by unfold bitAt; rfl
theorem packW_bit (l : List Bool) (W i : Nat) (hi : i ≤ 64 * W) : ∀ j, bitAt (packW l W i) j = (decide (j < i) && l.getD j false) := by
  induction i with
  | zero =>
    intro j
    rw [bitAt_eq, packW_0, List.getD_eq_getElem?_getD, List.getElem?_replicate]
    split <;> simp
  | succ i ih =>
    intro j
    have ih := ih (by omega)
    cases hb : l.getD i false with
    | false =>
      rw [packW_no hb, ih]
      by_cases h : j = i
      · subst h; simp only [hb]; simp
      · have : (decide (j < i + 1)) = decide (j < i) := by simp; omega
        rw [this]
    | true =>
      rw [packW_yes hb]
      have hl := packW_length l W i
      have hil : i / 64 < (packW l W i).length := by rw [hl]; omega
      have hclear : ((packW l W i).getD (i / 64) 0).testBit (i % 64) = false := by rw [← bitAt_eq, ih]; simp
      rw [bitAt_eq]
      by_cases hw : j / 64 = i / 64
      · rw [hw, List.getD_eq_getElem?_getD, List.getElem?_set_self hil, Option.getD_some, add_pow_bit _ _ _ hclear, ← hw, ← bitAt_eq, ih]
        by_cases h : j = i
        · subst h; simp only [hb]; simp
        · have h1 : ¬ j % 64 = i % 64 := by omega
          have : (decide (j < i + 1)) = decide (j < i) := by simp; omega
          rw [this]; simp [h1]
      · rw [List.getD_eq_getElem?_getD, List.getElem?_set_ne (by omega), ← List.getD_eq_getElem?_getD, ← bitAt_eq, ih]
        have : (decide (j < i + 1)) = decide (j < i) := by simp; omega
        rw [this]
theorem packW_clear (l : List Bool) (W i j : Nat) (hi : i ≤ 64 * W) (hj : i ≤ j) : ((packW l W i).getD (j / 64) 0).testBit (j % 64) = false := by
  rw [← bitAt_eq, packW_bit l W i hi]; simp; omega
theorem packW_lt (l : List Bool) (W i : Nat) (hi : i ≤ 64 * W) : ∀ z ∈ packW l W i, z < 18446744073709551616 := by
  induction i with
  | zero => intro z hz; rw [packW_0, List.mem_replicate] at hz; omega
  | succ i ih =>
    have ih := ih (by omega)
    cases hb : l.getD i false with
    | false => rw [packW_no hb]; exact ih
    | true =>
      rw [packW_yes hb]
      intro z hz
      rcases List.mem_or_eq_of_mem_set hz with h | h
      · exact ih z h
      · rw [h]
        refine add_pow_lt _ _ ?_ (by omega) (packW_clear l W i i (by omega) (Nat.le_refl _))
        rw [List.getD_eq_getElem?_getD, List.getElem?_eq_getElem (by rw [packW_length]; omega)]
        exact ih _ (List.getElem_mem _)
/-- A word more of room is a 0 more. -/
theorem packW_grow (l : List Bool) (W i : Nat) (hi : i ≤ 64 * W) : packW l (W + 1) i = packW l W i ++ [0] := by
  induction i with
  | zero => rw [packW_0, packW_0, List.replicate_succ']
  | succ i ih =>
    have ih := ih (by omega)
    cases hb : l.getD i false with
    | false => rw [packW_no hb, packW_no hb, ih]
    | true =>
      have hl : i / 64 < (packW l W i).length := by rw [packW_length]; omega
      rw [packW_yes hb, packW_yes hb, ih, List.set_append_left _ _ hl]
      congr 2
      rw [List.getD_eq_getElem?_getD, List.getElem?_append_left hl, List.getD_eq_getElem?_getD]
/-- What is made is well formed. -/
theorem packW_may (l : List Bool) (hl : l.length ≤ 4096) : mayBits l.length (packW l ((l.length + 63) / 64) l.length) = true := by
  refine mayBits_iff.2 ((mayBits_ref (packW_lt l _ _ (by omega))).2 ⟨?_, fun i h1 h2 => ?_⟩)
  · rw [packW_length]; omega
  · rw [packW_bit l _ _ (by omega)]; simp; intro; omega
attribute [irreducible] packW setW
end Go.Dam

/-
  Plain laws of making a wave, no program in sight: numbers parted by a bit, level by level; a stable sort by a bit is that parting. Conditions: none.
-/
namespace Go.Dam
open Go Go.Dam.Stable
set_option linter.unusedVariables false
/-- Bit k of a number. -/
def bitK (k : Nat) (z : Int) : Bool := decide (z / 2 ^ k % 2 = 1)
/-- The numbers whose bit k is b, in their order. -/
def halfK (k : Nat) (b : Bool) (m : List Int) : List Int := m.filter fun z => bitK k z == b
/-- Parted by bit k. -/
def partK (k : Nat) (m : List Int) : List Int := halfK k false m ++ halfK k true m
/-- Ahead by bit k. -/
def ltK (k : Nat) (x y : Int) : Bool := decide (x / 2 ^ k % 2 < y / 2 ^ k % 2)
theorem ltK_weak (k : Nat) : Weak (ltK k) where
  asym x y h := by simp only [ltK, decide_eq_true_eq] at h; simp only [ltK, decide_eq_false_iff_not]; omega
  tr x y z h g := by simp only [ltK, decide_eq_true_eq] at h g ⊢; omega
  neg x y z h g := by simp only [ltK, decide_eq_false_iff_not] at h g ⊢; omega
theorem tagL_up {β : Type} (l : List β) : (tagL l).Pairwise fun x y => x.1 < y.1 := by
  rw [List.pairwise_iff_getElem]
  intro i j hi hj hij
  have h1 := tagL_get l i (by rw [← tagL_len]; exact hi)
  have h2 := tagL_get l j (by rw [← tagL_len]; exact hj)
  rw [List.getElem?_eq_getElem hi] at h1
  rw [List.getElem?_eq_getElem hj] at h2
  injection h1 with h1
  injection h2 with h2
  rw [h1, h2]; exact hij
theorem bitK_yes {k : Nat} {z : Int} (h : bitK k z = true) : z / 2 ^ k % 2 = 1 := by simpa [bitK] using h
theorem bitK_no {k : Nat} {z : Int} (h : bitK k z = false) : z / 2 ^ k % 2 = 0 := by
  simp [bitK] at h
  omega
theorem stab_part (k : Nat) (m : List Int) : StabR (ltK k) m (partK k m) := by
  refine ⟨((tagL m).filter fun x => bitK k x.2 == false) ++ ((tagL m).filter fun x => bitK k x.2 == true), ?_, ?_, ?_⟩
  · have h := List.filter_append_perm (fun x : Nat × Int => bitK k x.2 == false) (tagL m)
    have e : ((tagL m).filter fun x => !(bitK k x.2 == false)) = (tagL m).filter fun x => bitK k x.2 == true := by
      congr 1; funext x; cases bitK k x.2 <;> rfl
    rw [e] at h
    exact h
  · rw [List.pairwise_append]
    refine ⟨?_, ?_, ?_⟩
    · refine ((tagL_up m).filter _).imp_of_mem fun {x y} hx hy h => ?_
      have h1 := bitK_no (by simpa using (List.mem_filter.1 hx).2)
      have h2 := bitK_no (by simpa using (List.mem_filter.1 hy).2)
      exact .inr ⟨by simp only [ltK, decide_eq_false_iff_not]; omega, by simp only [ltK, decide_eq_false_iff_not]; omega, h⟩
    · refine ((tagL_up m).filter _).imp_of_mem fun {x y} hx hy h => ?_
      have h1 := bitK_yes (by simpa using (List.mem_filter.1 hx).2)
      have h2 := bitK_yes (by simpa using (List.mem_filter.1 hy).2)
      exact .inr ⟨by simp only [ltK, decide_eq_false_iff_not]; omega, by simp only [ltK, decide_eq_false_iff_not]; omega, h⟩
    · intro x hx y hy
      have h1 := bitK_no (by simpa using (List.mem_filter.1 hx).2)
      have h2 := bitK_yes (by simpa using (List.mem_filter.1 hy).2)
      exact .inl (by simp only [ltK, decide_eq_true_eq]; omega)
  · have key : ∀ b, ((tagL m).filter fun x => bitK k x.2 == b).map (·.2) = halfK k b m := fun b => by
      unfold halfK
      conv => rhs; rw [← tagL_snd m]
      rw [List.filter_map]
      rfl
    rw [List.map_append, key, key]
    rfl
theorem halfK_snoc (k : Nat) (b : Bool) (m : List Int) (z : Int) : halfK k b (m ++ [z]) = if bitK k z = b then halfK k b m ++ [z] else halfK k b m := by
  unfold halfK
  rw [List.filter_append]
  by_cases h : bitK k z = b
  · rw [if_pos h]; simp [List.filter_cons, h]
  · rw [if_neg h]
    have : (bitK k z == b) = false := by simpa using h
    simp [List.filter_cons, this]
theorem halfK_len (k : Nat) (b : Bool) (m : List Int) : (halfK k b m).length ≤ m.length := List.length_filter_le _ _
theorem partK_len (k : Nat) (m : List Int) : (partK k m).length = m.length := (stab_part k m).len
theorem partK_mem {k : Nat} {m : List Int} {z : Int} (h : z ∈ partK k m) : z ∈ m := (stab_part k m).perm.mem_iff.1 h
/-- The numbers after t rounds. -/
def nowK (lv : Nat) (l : List Int) : Nat → List Int
  | 0 => l
  | t + 1 => partK (lv - 1 - t) (nowK lv l t)
theorem nowK_0 (lv : Nat) (l : List Int) : nowK lv l 0 = l := rfl
theorem nowK_succ (lv : Nat) (l : List Int) (t : Nat) : nowK lv l (t + 1) = partK (lv - 1 - t) (nowK lv l t) := rfl
theorem nowK_len (lv : Nat) (l : List Int) : ∀ t, (nowK lv l t).length = l.length
  | 0 => rfl
  | t + 1 => by rw [nowK_succ, partK_len, nowK_len lv l t]
theorem nowK_mem {lv : Nat} {l : List Int} {z : Int} : ∀ t, z ∈ nowK lv l t → z ∈ l
  | 0, h => h
  | t + 1, h => by rw [nowK_succ] at h; exact nowK_mem t (partK_mem h)
/-- A level's bits. -/
def bitsK (k : Nat) (m : List Int) : List Bool := m.map (bitK k)
theorem bitsK_len (k : Nat) (m : List Int) : (bitsK k m).length = m.length := List.length_map _
/-- The words of level t. -/
def wordsK (lv : Nat) (l : List Int) (t : Nat) : List Nat := packW (bitsK (lv - 1 - t) (nowK lv l t)) ((l.length + 63) / 64) l.length
/-- The words of the first levels. -/
def levsK (lv : Nat) (l : List Int) : Nat → List (List Nat)
  | 0 => []
  | t + 1 => levsK lv l t ++ [wordsK lv l t]
theorem levsK_0 (lv : Nat) (l : List Int) : levsK lv l 0 = [] := rfl
theorem levsK_succ (lv : Nat) (l : List Int) (t : Nat) : levsK lv l (t + 1) = levsK lv l t ++ [wordsK lv l t] := rfl
theorem levsK_len (lv : Nat) (l : List Int) : ∀ t, (levsK lv l t).length = t
  | 0 => rfl
  | t + 1 => by rw [levsK_succ, List.length_append, levsK_len lv l t]; rfl
attribute [irreducible] bitK halfK partK ltK nowK bitsK wordsK levsK
end Go.Dam

/-
  append of a whole row of the call's own, nil or not, onto another one. Conditions: none; nothing here names the program.
-/
namespace Go.Dam
open Go Go.RowKit Go.ChangeShapes Go.WideShapes Go.Joins Go.Deep
set_option linter.unusedVariables false
section
variable {P : Program} {w : World}
theorem wpList_pushOwn {T E : TypeId} {z : Value} {size bytes : Nat} (el : El P T E z size bytes) {ops : Array Oper} {rest : List Oper} {o : Oper} {a : Act} {Q : Exit → Act → World → Prop} (hgd : o.guard = none) (s x : Operand)
    (ho : o.op = .call { callee := .builtin .append, args := #[s, x], argTypes := #[T, T] })
    (base : Nat) (v : Value) (n : Nat) (xs : List Value) (hown : w.ownsRow base E size v n xs) (hs : a.eval s = v)
    (base' : Nat) (u : Value) (m : Nat) (ys : List Value) (hsrc : w.ownsRow base' E size u m ys) (hx : a.eval x = u) (h1 : ∀ y ∈ ys, y.oneCell' = true)
    (h63 : n + m ≤ 140737488355328) (hbytes : (n + m) * bytes ≤ 140737488355328) (hbase : base ≤ w.heap.size)
    (h : ∀ v' w', w'.ownsRow base E size v' (n + m) (xs ++ ys) → w.grownBy w' v.ownBlock → LiesOr w.heap.size v v' → wpList P ops Q rest (a.put o.dst v') w') : wpList P ops Q (o :: rest) a w := by
  rcases ownsRow_forms hsrc with ⟨rfl, rfl⟩ | ⟨g, cap, rfl⟩
  · obtain ⟨i, hi, hz, hz1, hz2⟩ := el.info
    have hy : ys = [] := List.eq_nil_of_length_eq_zero (by have := hsrc.1; simpa using this)
    subst hy
    have hr := run_append_owned_none (P := P) (w := w) base T o.type E i size el.ht hi v n xs hown
    refine wpList_plain hgd fun K hK => ?_
    unfold Oper.wp execOp
    simp only [ho, resolve, invoke, builtin, Sem.run_bind, Sem.run_pure, Result.andThen_ok, List.map_toArray, List.map_cons, List.map_nil, hs, hx, hr]
    exact hK _ _ (h v w (by simpa using hown) (World.grownBy.refl w _) fun g hg => .inl hg)
  · exact wpList_pushM el hgd s x ho base v n xs hown hs ⟨g, 0, none⟩ m cap ys hx hsrc.1 (hsrc.cells (g := g) rfl) h1 h63 hbytes hbase h
/-- append(nil, x...), x an argument: a copy in new memory. -/
theorem wpList_copyReads {T E : TypeId} {z : Value} {bytes : Nat} (el : El P T E z 1 bytes) {ops : Array Oper} {rest : List Oper} {o : Oper} {a : Act} {Q : Exit → Act → World → Prop} (hgd : o.guard = none) (s x : Operand)
    (ho : o.op = .call { callee := .builtin .append, args := #[s, x], argTypes := #[T, T] }) (hs : a.eval s = .slice none 0 0)
    (B : Nat) (A : Option Addr) (m c : Nat) (ys : List Value) (hr : Reads w B 1 A m ys) (hx : a.eval x = .slice A m c) (h1 : ∀ y ∈ ys, y.oneCell' = true)
    (h63 : m ≤ 140737488355328) (hbytes : m * bytes ≤ 140737488355328)
    (h : ∀ v' w', w'.ownsRow w.heap.size E 1 v' m ys → w.grownBy w' none → wpList P ops Q rest (a.put o.dst v') w') : wpList P ops Q (o :: rest) a w := by
  by_cases h0 : m = 0
  · subst h0
    obtain ⟨i, hi, hz, hz1, hz2⟩ := el.info
    have hy : ys = [] := List.eq_nil_of_length_eq_zero (by have := hr.1; simpa using this)
    subst hy
    have hr : (Builtin.append_ #[T, T] o.type #[.slice none 0 0, .slice A 0 c]).run P w = .ok (.slice none 0 0) w := by
      cases A <;> simp [Builtin.append_, run_underlying el.ht, sizeOf, typeInfo, hi, Builtin.lenOf, Builtin.firstCells, storeCells, loadCells, loadCellsFrom]
    refine wpList_plain hgd fun K hK => ?_
    unfold Oper.wp execOp
    simp only [ho, resolve, invoke, builtin, Sem.run_bind, Sem.run_pure, Result.andThen_ok, List.map_toArray, List.map_cons, List.map_nil, hs, hx, hr]
    exact hK _ _ (h _ w (World.ownsRow_nil _ _ _ _) (World.grownBy.refl w _))
  · obtain ⟨ad, rfl, _, hc⟩ := hr.2 (by omega)
    refine wpList_pushM el hgd s x ho w.heap.size _ 0 [] (World.ownsRow_nil _ _ _ _) hs ad m c ys hx hr.1 hc h1 (by omega) (by rw [Nat.zero_add]; exact hbytes) (Nat.le_refl _) fun v' w' k1 k2 _ => ?_
    rw [Nat.zero_add, List.nil_append] at k1
    exact h v' w' k1 k2
end
end Go.Dam

/-
  Words beside a store into another cell; a made row of false under a name. Conditions: none; nothing here names the program.
-/
namespace Go.Dam
open Go Go.RowKit
set_option linter.unusedVariables false
theorem IsWords.beside {w : World} {B : Nat} {v : Value} {ws : List Nat} (h : IsWords w B v ws) {p : Addr} {y : Value} (hp : w.cell? p = some y) (hy : ∀ n, y ≠ .int .u64 n) (x : Value) : IsWords (w.setCell p x) B v ws := by
  obtain ⟨A, c, rfl, h1, h2, h5, ⟨h3, h3'⟩, h4⟩ := h
  refine ⟨A, c, rfl, h1, h2, h5, ⟨h3, fun h0 => ?_⟩, h4⟩
  obtain ⟨ad, rfl, hB, hc⟩ := h3' h0
  refine ⟨ad, rfl, hB, fun j u hu => ?_⟩
  have hcu := hc j u hu
  rw [World.cell?_setCell_other, hcu]
  intro e
  rw [← e, hp] at hcu
  have hm := List.mem_of_getElem? hu
  obtain ⟨z, _, rfl⟩ := List.mem_map.1 hm
  exact hy _ (Option.some.inj hcu)
/-- A made row of false. -/
def falsesV (n : Nat) : Array Value := (List.replicate n (Value.bool false)).toArray
theorem falsesV_eq (n : Nat) : (List.replicate n (Value.bool false)).toArray = falsesV n := rfl
theorem own_falses {w : World} {E : TypeId} {n base : Nat} (hn : n ≤ 140737488351232) (hb : base ≤ w.heap.size) : (w.alloc (.cells (falsesV n) E)).ownsRow base E 1 (.slice (some ⟨w.heap.size, 0, none⟩) n n) n ((List.replicate n false).map Value.bool) :=
  ⟨by simp, .inr ⟨w.heap.size, n, _, rfl, hb, Blk.new w E (falsesV n), Nat.le_refl _, by unfold maxLen; omega, by unfold falsesV; simp, by unfold falsesV; simp⟩⟩
attribute [irreducible] falsesV
end Go.Dam

/-
  Plain laws of orders and their numbers, no program in sight: the digits of a number, and which of those that are left they choose. Conditions: bounds on the numbers.
-/
namespace Go.Dam
set_option linter.unusedVariables false
/-- How many orders n things have. -/
def fact : Nat → Nat
  | 0 => 1
  | n + 1 => (n + 1) * fact n
theorem fact_pos : ∀ n, 0 < fact n
  | 0 => by simp [fact]
  | n + 1 => Nat.mul_pos (by omega) (fact_pos n)
theorem fact_le {n m : Nat} (h : n ≤ m) : fact n ≤ fact m := by
  induction m with
  | zero => rw [show n = 0 from by omega]; exact Nat.le_refl _
  | succ m ih =>
    rcases Nat.lt_or_ge n (m + 1) with h1 | h1
    · exact Nat.le_trans (ih (by omega)) (Nat.le_mul_of_pos_left _ (by omega))
    · obtain rfl : n = m + 1 := by omega
      exact Nat.le_refl _
theorem fact_20 {n : Nat} (h : n ≤ 20) : fact n ≤ 2432902008176640000 := Nat.le_trans (fact_le h) (by decide)
/-- The digit at place i, of n. -/
def digN (n num i : Nat) : Nat := num / fact (n - 1 - i) % (n - i)
/-- Those below m that are not among the chosen ones. -/
def freeN (o : List Nat) (m : Nat) : List Nat := (List.range m).filter fun y => !o.contains y
/-- After i digits: those chosen. -/
def choseN (n num : Nat) : Nat → List Nat
  | 0 => []
  | i + 1 => choseN n num i ++ [(freeN (choseN n num i) n).getD (digN n num i) 0]
theorem freeN_0 (o : List Nat) : freeN o 0 = [] := rfl
theorem freeN_succ (o : List Nat) (m : Nat) : freeN o (m + 1) = if o.contains m then freeN o m else freeN o m ++ [m] := by
  unfold freeN
  rw [List.range_succ, List.filter_append]
  cases h : o.contains m
  · rw [List.filter_cons, h]; simp
  · rw [List.filter_cons, h]; simp
theorem freeN_nil (m : Nat) : freeN [] m = List.range m := by
  unfold freeN; simp
theorem freeN_mem {o : List Nat} {m y : Nat} : y ∈ freeN o m ↔ y < m ∧ y ∉ o := by
  unfold freeN; simp [List.mem_filter]
/-- The d-th free one: free, and just d free ones are below it. -/
theorem freeN_at {o : List Nat} {m d : Nat} (h : d < (freeN o m).length) : (freeN o m).getD d 0 < m ∧ o.contains ((freeN o m).getD d 0) = false ∧ (freeN o ((freeN o m).getD d 0)).length = d := by
  induction m with
  | zero => simp [freeN] at h
  | succ m ih =>
    rw [freeN_succ] at h ⊢
    split at h
    · rename_i hc
      rw [if_pos hc]
      obtain ⟨a, b, c⟩ := ih h
      exact ⟨by omega, b, c⟩
    · rename_i hc
      rw [if_neg hc]
      rw [List.length_append, List.length_singleton] at h
      rcases Nat.lt_or_ge d (freeN o m).length with h1 | h1
      · obtain ⟨a, b, c⟩ := ih h1
        have e : (freeN o m ++ [m]).getD d 0 = (freeN o m).getD d 0 := by simp [List.getD_eq_getElem?_getD, List.getElem?_append_left h1]
        rw [e]; exact ⟨by omega, b, c⟩
      · have hd : d = (freeN o m).length := by omega
        have e : (freeN o m ++ [m]).getD d 0 = m := by subst hd; simp [List.getD_eq_getElem?_getD]
        rw [e]; exact ⟨by omega, by simpa using hc, hd.symm⟩
theorem freeN_mono (o : List Nat) {a b : Nat} (h : a ≤ b) : (freeN o a).length ≤ (freeN o b).length := by
  induction b with
  | zero => rw [show a = 0 from by omega]; exact Nat.le_refl _
  | succ b ih =>
    rcases Nat.lt_or_ge a (b + 1) with h1 | h1
    · refine Nat.le_trans (ih (by omega)) ?_
      rw [freeN_succ]; split <;> simp
    · obtain rfl : a = b + 1 := by omega
      exact Nat.le_refl _
/-- What is chosen is taken out. -/
theorem freeN_erase {o : List Nat} {m d : Nat} (h : d < (freeN o m).length) : freeN (o ++ [(freeN o m).getD d 0]) m = (freeN o m).eraseIdx d := by
  obtain ⟨hy, hc, hl⟩ := freeN_at h
  generalize (freeN o m).getD d 0 = y at *
  have below : ∀ k, k ≤ y → freeN (o ++ [y]) k = freeN o k := by
    intro k hk
    unfold freeN
    refine List.filter_congr fun x hx => ?_
    have : x < k := List.mem_range.1 hx
    simp [List.contains_eq_mem, show x ≠ y by omega]
  have key : ∀ k, y < k → freeN (o ++ [y]) k = (freeN o k).eraseIdx d := by
    intro k
    induction k with
    | zero => intro hk; omega
    | succ k ih =>
      intro hk
      rw [freeN_succ, freeN_succ]
      rcases Nat.lt_or_ge y k with h1 | h1
      · have e : (o ++ [y]).contains k = o.contains k := by simp [List.contains_eq_mem, show k ≠ y by omega]
        rw [e, ih h1]
        have hlt : d < (freeN o k).length := by
          have := freeN_mono o (show y + 1 ≤ k by omega)
          rw [freeN_succ, if_neg (by rw [hc]; simp)] at this
          simp at this; omega
        split
        · rfl
        · rw [List.eraseIdx_append_of_lt_length hlt]
      · obtain rfl : y = k := by omega
        rw [if_pos (by simp), if_neg (by rw [hc]; simp), below y (Nat.le_refl _), List.eraseIdx_append_of_length_le (by omega), hl]
        simp
  exact key m hy
theorem digN_lt {n num i : Nat} (h : i < n) : digN n num i < n - i := Nat.mod_lt _ (by omega)
theorem chose_facts (n num : Nat) : ∀ i, i ≤ n → (choseN n num i).length = i ∧ (freeN (choseN n num i) n).length = n - i
  | 0, _ => by simp [choseN, freeN_nil]
  | i + 1, h => by
    obtain ⟨h1, h2⟩ := chose_facts n num i (by omega)
    have hd := digN_lt (num := num) (show i < n by omega)
    simp only [choseN]
    refine ⟨by simp [h1], ?_⟩
    rw [freeN_erase (by omega), List.length_eraseIdx_of_lt (by omega), h2]; omega
theorem choseN_0 (n num : Nat) : choseN n num 0 = [] := rfl
theorem choseN_succ (n num i : Nat) : choseN n num (i + 1) = choseN n num i ++ [(freeN (choseN n num i) n).getD (digN n num i) 0] := rfl
theorem choseN_lt (n num : Nat) : ∀ i, i ≤ n → ∀ z ∈ choseN n num i, z < n
  | 0, _, z, hz => by simp [choseN] at hz
  | i + 1, h, z, hz => by
    rw [choseN_succ] at hz
    rcases List.mem_append.1 hz with h1 | h1
    · exact choseN_lt n num i (by omega) z h1
    · simp only [List.mem_singleton] at h1
      obtain ⟨_, h2⟩ := chose_facts n num i (by omega)
      have hd := digN_lt (num := num) (show i < n by omega)
      rw [h1]
      exact (freeN_at (by omega)).1
theorem fact_succ (n : Nat) : fact (n + 1) = (n + 1) * fact n := rfl
theorem fact_0 : fact 0 = 1 := rfl
theorem fact_split {n i : Nat} (h : i < n) : fact (n - i) = (n - i) * fact (n - 1 - i) := by
  rw [show n - i = (n - 1 - i) + 1 from by omega, fact_succ]
/-- A digit from what is left of the number. -/
theorem dig_rest {n num i : Nat} (h : i < n) : num % fact (n - i) / fact (n - 1 - i) = digN n num i ∧ num % fact (n - i) % fact (n - 1 - i) = num % fact (n - (i + 1)) := by
  rw [fact_split h]
  refine ⟨?_, ?_⟩
  · unfold digN; rw [Nat.mul_comm, Nat.mod_mul_right_div_self]
  · rw [Nat.mod_mod_of_dvd _ (Nat.dvd_mul_left _ _)]; congr 2; omega
/-- The number divided down from the last place on. -/
theorem div_down {n num i : Nat} (h : i < n) : num / fact (n - 1 - i) / (n - i) = num / fact (n - i) := by
  rw [fact_split h, Nat.div_div_eq_div_mul, Nat.mul_comm]
theorem digN_eq (n num i : Nat) : digN n num i = num / fact (n - 1 - i) % (n - i) := rfl
theorem over_iff (num n : Nat) : 0 < num / fact n ↔ fact n ≤ num := by
  rw [Nat.div_pos_iff]
  exact ⟨fun h => h.2, fun h => ⟨fact_pos n, h⟩⟩
/-- The digits while they are found: those from place j on. -/
def digHalf (n num j : Nat) : List Int := (List.range n).map fun p => if j ≤ p then ((digN n num p : Nat) : Int) else 0
theorem digHalf_length (n num j : Nat) : (digHalf n num j).length = n := by simp [digHalf]
theorem digHalf_start (n num : Nat) : digHalf n num n = List.replicate n 0 := by
  apply List.ext_getElem
  · simp [digHalf]
  · intro p h1 h2
    have hp : p < n := by simpa using h2
    simp [digHalf, show ¬ n ≤ p by omega]
theorem digHalf_set {n num j : Nat} (h : j < n) {x : Int} (hx : x = ((digN n num j : Nat) : Int)) : (digHalf n num (j + 1)).set j x = digHalf n num j := by
  subst hx
  apply List.ext_getElem
  · simp [digHalf]
  · intro p h1 h2
    rw [List.getElem_set]
    simp only [digHalf, List.getElem_map, List.getElem_range]
    by_cases e : j = p
    · subst e; simp
    · rw [if_neg e]
      by_cases h3 : j ≤ p
      · rw [if_pos h3, if_pos (by omega)]
      · rw [if_neg h3, if_neg (by omega)]
theorem digHalf_at {n num p : Nat} (h : p < n) : (digHalf n num 0).getD p 0 = ((digN n num p : Nat) : Int) := by simp [digHalf, h]
/-- Numbers as values. -/
def natVs (l : List Nat) : List Go.Value := l.map fun k : Nat => Go.Value.int .i64 (k : Int)
theorem natVs_nil : natVs [] = [] := rfl
theorem natVs_length (l : List Nat) : (natVs l).length = l.length := by simp [natVs]
theorem natVs_snoc (l : List Nat) (k : Nat) : natVs (l ++ [k]) = natVs l ++ [.int .i64 (k : Int)] := by simp [natVs]
theorem natVs_erase (l : List Nat) (d : Nat) : natVs (l.eraseIdx d) = (natVs l).take d ++ (natVs l).drop (d + 1) := by
  rw [List.eraseIdx_eq_take_drop_succ]; simp [natVs, List.map_drop]
theorem natVs_at {l : List Nat} {d : Nat} (h : d < l.length) : (natVs l)[d]? = some (.int .i64 ((l.getD d 0 : Nat) : Int)) := by simp [natVs, h]
theorem natVs_range (n : Nat) : natVs (List.range (n + 1)) = natVs (List.range n) ++ [.int .i64 (n : Int)] := by rw [List.range_succ, natVs_snoc]
theorem natVs_ints (l : List Nat) : natVs l = (l.map fun k : Nat => (k : Int)).map (Go.Value.int .i64) := by simp [natVs]
theorem natVs_one (l : List Nat) : ∀ u ∈ natVs l, u.oneCell' = true := by
  intro u hu
  simp only [natVs, List.mem_map] at hu
  obtain ⟨k, _, rfl⟩ := hu
  rfl
attribute [irreducible] fact digN freeN choseN digHalf natVs
end Go.Dam

/-
  Plain arithmetic of the sum of bytes, no program in sight: eight steps of one bit are one look into the table. Conditions: bounds on the numbers.
-/
namespace Go.Dam
set_option linter.unusedVariables false
open Go
def crcS (n : Nat) : Nat := if n % 2 = 1 then n / 2 ^^^ 3988292384 else n / 2
/-- So many steps. -/
def crcN : Nat → Nat → Nat
  | 0, n => n
  | k + 1, n => crcS (crcN k n)
/-- The sum after k bytes. -/
def crcTo (l : List Int) : Nat → Nat
  | 0 => 4294967295
  | k + 1 => crcN 8 (crcTo l k ^^^ (l.getD k 0).toNat)
theorem crcS_bit (n i : Nat) : (crcS n).testBit i = (n.testBit (i + 1) ^^ (n.testBit 0 && Nat.testBit 3988292384 i)) := by
  unfold crcS
  have h2 : (n / 2).testBit i = n.testBit (i + 1) := by rw [Nat.testBit_succ]
  split
  · rename_i h
    have : n.testBit 0 = true := by rw [Nat.testBit_zero]; simpa using h
    rw [Nat.testBit_xor, h2, this, Bool.true_and]
  · rename_i h
    have : n.testBit 0 = false := by rw [Nat.testBit_zero]; simpa using h
    rw [h2, this, Bool.false_and, Bool.xor_false]
theorem crcS_xor (a b : Nat) : crcS (a ^^^ b) = crcS a ^^^ crcS b := by
  apply Nat.eq_of_testBit_eq; intro i
  simp only [crcS_bit, Nat.testBit_xor]
  cases a.testBit (i + 1) <;> cases b.testBit (i + 1) <;> cases a.testBit 0 <;> cases b.testBit 0 <;> cases Nat.testBit 3988292384 i <;> rfl
theorem crcS_lt {n : Nat} (h : n < 4294967296) : crcS n < 4294967296 := by
  unfold crcS
  split
  · exact Nat.xor_lt_two_pow (n := 32) (by omega) (by omega)
  · omega
theorem crcN_lt {n : Nat} (h : n < 4294967296) : ∀ k, crcN k n < 4294967296
  | 0 => h
  | k + 1 => crcS_lt (crcN_lt h k)
theorem crcN_xor (a b : Nat) : ∀ k, crcN k (a ^^^ b) = crcN k a ^^^ crcN k b
  | 0 => rfl
  | k + 1 => by simp only [crcN, crcN_xor a b k, crcS_xor]
theorem crcS_even (q : Nat) : crcS (2 * q) = q := by
  unfold crcS
  rw [if_neg (by omega)]; omega
theorem crcN_high (k q : Nat) : crcN k (2 ^ k * q) = q := by
  induction k generalizing q with
  | zero => simp [crcN]
  | succ k ih =>
    rw [Nat.pow_succ, Nat.mul_assoc]
    simp only [crcN]
    rw [ih, crcS_even]
theorem split_xor (n x : Nat) (hx : x < 256) : n ^^^ x = (n % 256 ^^^ x) ^^^ 2 ^ 8 * (n / 256) := by
  apply Nat.eq_of_testBit_eq; intro i
  simp only [Nat.testBit_xor]
  have e : 2 ^ 8 * (n / 256) + n % 256 = n := by omega
  have h := Nat.testBit_two_pow_mul_add (n / 256) (show n % 256 < 2 ^ 8 by omega) i
  rw [e] at h
  have h2 := Nat.testBit_two_pow_mul_add (n / 256) (show 0 < 2 ^ 8 by omega) i
  rw [Nat.add_zero] at h2
  have hm : (n % 256).testBit i = (decide (i < 8) && n.testBit i) := Nat.testBit_mod_two_pow n 8 i
  rw [h2, h, hm]
  by_cases hi : i < 8
  · simp [hi, h]
  · simp [hi, Nat.testBit_lt_two_pow (Nat.lt_of_lt_of_le hx (Nat.pow_le_pow_right (by omega : 0 < 2) (by omega : 8 ≤ i)))]
theorem crc_table (n x : Nat) (hx : x < 256) : crcN 8 (n ^^^ x) = crcN 8 (n % 256 ^^^ x) ^^^ n / 256 := by
  rw [split_xor n x hx, crcN_xor, crcN_high]
theorem crcTo_lt {l : List Int} (hl : ∀ i, (l.getD i 0).toNat < 256) : ∀ k, crcTo l k < 4294967296
  | 0 => by simp [crcTo]
  | k + 1 => by
    have := hl k
    exact crcN_lt (Nat.xor_lt_two_pow (n := 32) (crcTo_lt hl k) (by omega)) 8
theorem crcS_odd {n : Nat} (h : n % 2 = 1) : crcS n = n / 2 ^^^ 3988292384 := if_pos h
theorem crcS_ev {n : Nat} (h : n % 2 = 0) : crcS n = n / 2 := if_neg (by omega)
theorem crcN_0 (n : Nat) : crcN 0 n = n := rfl
theorem crcN_succ (k n : Nat) : crcN (k + 1) n = crcS (crcN k n) := rfl
theorem crcTo_0 (l : List Int) : crcTo l 0 = 4294967295 := rfl
theorem crcTo_succ (l : List Int) (k : Nat) : crcTo l (k + 1) = crcN 8 (crcTo l k ^^^ (l.getD k 0).toNat) := rfl
theorem ofInt_n (n a : Nat) (ha : a < 2 ^ n) : (BitVec.ofInt n (a : Int)).toNat = a := by
  rw [BitVec.ofInt_natCast, BitVec.toNat_ofNat]; exact Nat.mod_eq_of_lt ha
theorem wrap_u32 (x : Int) : IntKind.u32.wrap x = x % 4294967296 := by simp [IntKind.wrap, IntKind.bits, IntKind.signed]
theorem wrap_u8 (x : Int) : IntKind.u8.wrap x = x % 256 := by simp [IntKind.wrap, IntKind.bits, IntKind.signed]
theorem xor_u32 (a b : Nat) (ha : a < 4294967296) (hb : b < 4294967296) : bits .xor .u32 (a : Int) (b : Int) = ((a ^^^ b : Nat) : Int) := by
  have hx : a ^^^ b < 2 ^ 32 := Nat.xor_lt_two_pow (by omega) (by omega)
  show IntKind.u32.wrap ((BitVec.ofInt 32 (a : Int) ^^^ BitVec.ofInt 32 (b : Int)).toNat : Int) = _
  rw [BitVec.toNat_xor, ofInt_n 32 a (by omega), ofInt_n 32 b (by omega), wrap_u32]
  omega
theorem not_u32 (a : Nat) (ha : a < 4294967296) : bits .xor .u32 IntKind.u32.max (a : Int) = ((4294967295 - a : Nat) : Int) := by
  have h := xor_u32 4294967295 a (by decide) ha
  have e : (4294967295 : Nat) ^^^ a = 4294967295 - a := by
    apply Nat.eq_of_testBit_eq; intro i
    rw [Nat.testBit_xor, show (4294967295 : Nat) - a = 2 ^ 32 - (a + 1) from by omega, Nat.testBit_two_pow_sub_succ (by omega), show (4294967295 : Nat) = 2 ^ 32 - 1 from rfl, Nat.testBit_two_pow_sub_one]
    by_cases hi : i < 32
    · simp [hi]
    · simp [hi]; exact Nat.testBit_lt_two_pow (Nat.lt_of_lt_of_le ha (Nat.pow_le_pow_right (by omega : 0 < 2) (by omega : 32 ≤ i)))
  rw [e] at h
  exact h
theorem xor_u8 (a b : Nat) (ha : a < 256) (hb : b < 256) : bits .xor .u8 (a : Int) (b : Int) = ((a ^^^ b : Nat) : Int) := by
  have hx : a ^^^ b < 2 ^ 8 := Nat.xor_lt_two_pow (by omega) (by omega)
  show IntKind.u8.wrap ((BitVec.ofInt 8 (a : Int) ^^^ BitVec.ofInt 8 (b : Int)).toNat : Int) = _
  rw [BitVec.toNat_xor, ofInt_n 8 a (by omega), ofInt_n 8 b (by omega), wrap_u8]
  omega
theorem and1_u32 (a : Nat) (ha : a < 4294967296) : bits .and .u32 (a : Int) 1 = ((a % 2 : Nat) : Int) := by
  show IntKind.u32.wrap ((BitVec.ofInt 32 (a : Int) &&& BitVec.ofInt 32 ((1 : Nat) : Int)).toNat : Int) = _
  rw [BitVec.toNat_and, ofInt_n 32 a (by omega), ofInt_n 32 1 (by decide), wrap_u32, Nat.and_one_is_mod]
  omega
theorem wf_u8c {x : Int} (h : (Lit.int .u8 x).wf = true) : 0 ≤ x ∧ x ≤ 255 := by
  simpa [Lit.wf, IntKind.min, IntKind.max, IntKind.signed, IntKind.bits] using h
theorem byte_at {l : List Int} (hw : ∀ z ∈ l, (Lit.int .u8 z).wf = true) (i : Nat) : 0 ≤ l.getD i 0 ∧ l.getD i 0 ≤ 255 := by
  rcases Nat.lt_or_ge i l.length with h | h
  · have : l.getD i 0 = l[i] := by simp [h]
    rw [this]; exact wf_u8c (hw _ (List.getElem_mem h))
  · simp [h]
theorem crc_odd {t : Nat} (ht : t < 4294967296) (h2 : t % 2 = 1) : bits .and .u32 (t : Int) 1 = 1 ∧ bits .xor .u32 ((t : Int) / 2) 3988292384 = ((crcS t : Nat) : Int) := by
  refine ⟨by rw [and1_u32 t ht, h2]; rfl, ?_⟩
  rw [crcS_odd h2]
  have := xor_u32 (t / 2) 3988292384 (by omega) (by decide)
  rw [← this]; congr 1
theorem crc_even {t : Nat} (ht : t < 4294967296) (h2 : t % 2 = 0) : bits .and .u32 (t : Int) 1 = 0 ∧ (t : Int) / 2 = ((crcS t : Nat) : Int) := by
  refine ⟨by rw [and1_u32 t ht, h2]; rfl, ?_⟩
  rw [crcS_ev h2]; omega
attribute [irreducible] crcS crcN crcTo
end Go.Dam

/-
  Plain facts of points as bytes, no program in sight: numbers in groups of seven bits, numbers folded, the bytes of an image. Conditions: bounds on the numbers.
-/
namespace Go.Dam
set_option linter.unusedVariables false
open Go
theorem wf_byte {z : Int} (h1 : 0 ≤ z) (h2 : z ≤ 255) : (Lit.int .u8 z).wf = true := by
  simp [Lit.wf, IntKind.min, IntKind.max, IntKind.signed, IntKind.bits]
  omega
/-- A number in groups of seven bits, the lowest first. -/
def sevL (n : Nat) : List Int := if n < 128 then [(n : Int)] else ((n % 128 + 128 : Nat) : Int) :: sevL (n / 128)
termination_by n
decreasing_by omega
theorem sevL_lo {n : Nat} (h : n < 128) : sevL n = [(n : Int)] := by rw [sevL, if_pos h]
theorem sevL_hi {n : Nat} (h : 128 ≤ n) : sevL n = ((n % 128 + 128 : Nat) : Int) :: sevL (n / 128) := by rw [sevL, if_neg (by omega)]
theorem sevL_len : ∀ k n : Nat, n < 128 ^ (k + 1) → (sevL n).length ≤ k + 1
  | 0, n, h => by rw [sevL_lo (by simpa using h)]; simp
  | k + 1, n, h => by
    by_cases g : n < 128
    · rw [sevL_lo g]; simp
    · rw [sevL_hi (by omega)]
      have := sevL_len k (n / 128) (by rw [Nat.div_lt_iff_lt_mul (by decide)]; rw [Nat.pow_succ] at h; exact h)
      simp only [List.length_cons]; omega
theorem sevL_len4 {n : Nat} (h : n ≤ 2097152) : (sevL n).length ≤ 4 := sevL_len 3 n (by omega)
theorem sevL_pos (n : Nat) : 1 ≤ (sevL n).length := by
  by_cases g : n < 128
  · rw [sevL_lo g]; simp
  · rw [sevL_hi (by omega)]; simp
theorem sevL_byte : ∀ k n : Nat, n ≤ k → ∀ z ∈ sevL n, 0 ≤ z ∧ z ≤ 255
  | k, n, h, z, hz => by
    by_cases g : n < 128
    · rw [sevL_lo g] at hz
      rw [List.mem_singleton.1 hz]; omega
    · rw [sevL_hi (by omega)] at hz
      rcases List.mem_cons.1 hz with e | e
      · rw [e]; omega
      · match k, h with
        | k + 1, h => exact sevL_byte k (n / 128) (by omega) z e
        | 0, h => omega
theorem sevL_wf (n : Nat) : ∀ z ∈ sevL n, (Lit.int .u8 z).wf = true := fun z hz => by
  obtain ⟨h1, h2⟩ := sevL_byte n n (Nat.le_refl _) z hz
  exact wf_byte h1 h2
/-- Numbers folded onto those that are not below 0. -/
def foldN (x : Int) : Nat := if x < 0 then (-2 * x - 1).toNat else (2 * x).toNat
theorem foldN_neg {x : Int} (h : x < 0) : ((foldN x : Nat) : Int) = -2 * x - 1 := by unfold foldN; rw [if_pos h]; omega
theorem foldN_pos {x : Int} (h : 0 ≤ x) : ((foldN x : Nat) : Int) = 2 * x := by unfold foldN; rw [if_neg (by omega)]; omega
theorem foldN_le {x : Int} (h1 : -1048576 ≤ x) (h2 : x ≤ 1048576) : foldN x ≤ 2097152 := by unfold foldN; split <;> omega
attribute [irreducible] foldN
/-- The bytes of the first numbers. -/
def numsL (l : List Int) : Nat → List Int
  | 0 => []
  | i + 1 => numsL l i ++ sevL (foldN (l.getD i 0))
theorem numsL_0 (l : List Int) : numsL l 0 = [] := rfl
theorem numsL_succ (l : List Int) (i : Nat) : numsL l (i + 1) = numsL l i ++ sevL (foldN (l.getD i 0)) := rfl
theorem numsL_len {l : List Int} : ∀ i, (∀ j, j < i → -1048576 ≤ l.getD j 0 ∧ l.getD j 0 ≤ 1048576) → (numsL l i).length ≤ 4 * i
  | 0, _ => by simp [numsL_0]
  | i + 1, h => by
    have h1 := numsL_len i fun j hj => h j (by omega)
    have h2 := sevL_len4 (foldN_le (h i (by omega)).1 (h i (by omega)).2)
    rw [numsL_succ, List.length_append]; omega
theorem numsL_wf (l : List Int) : ∀ i, ∀ z ∈ numsL l i, (Lit.int .u8 z).wf = true
  | 0, z, hz => by rw [numsL_0] at hz; cases hz
  | i + 1, z, hz => by
    rw [numsL_succ] at hz
    rcases List.mem_append.1 hz with e | e
    · exact numsL_wf l i z e
    · exact sevL_wf _ z e
attribute [irreducible] numsL
/-- The bytes ahead of the sum: a head, how many points, the numbers. -/
def bodyL (n : Nat) (l : List Int) (i : Nat) : List Int := [68, 65, 77, 49] ++ sevL n ++ numsL l i
theorem bodyL_0 (n : Nat) (l : List Int) : bodyL n l 0 = [68, 65, 77, 49] ++ sevL n := by unfold bodyL; rw [numsL_0, List.append_nil]
theorem bodyL_succ (n : Nat) (l : List Int) (i : Nat) : bodyL n l (i + 1) = bodyL n l i ++ sevL (foldN (l.getD i 0)) := by unfold bodyL; rw [numsL_succ, ← List.append_assoc]
theorem bodyL_len {n : Nat} {l : List Int} (hn : n ≤ 150) (i : Nat) (h : ∀ j, j < i → -1048576 ≤ l.getD j 0 ∧ l.getD j 0 ≤ 1048576) : (bodyL n l i).length ≤ 8 + 4 * i := by
  have h1 := sevL_len4 (n := n) (by omega)
  have h2 := numsL_len i h
  unfold bodyL
  simp only [List.length_append, List.length_cons, List.length_nil]
  omega
theorem bodyL_wf (n : Nat) (l : List Int) (i : Nat) : ∀ z ∈ bodyL n l i, (Lit.int .u8 z).wf = true := fun z hz => by
  unfold bodyL at hz
  rcases List.mem_append.1 hz with e | e
  · rcases List.mem_append.1 e with e | e
    · simp only [List.mem_cons, List.not_mem_nil, or_false] at e
      rcases e with rfl | rfl | rfl | rfl <;> rfl
    · exact sevL_wf _ z e
  · exact numsL_wf l i z e
attribute [irreducible] bodyL
/-- The sum's four bytes, the highest first. -/
def tailL (s : Nat) : List Int := [((s / 16777216 % 256 : Nat) : Int), ((s / 65536 % 256 : Nat) : Int), ((s / 256 % 256 : Nat) : Int), ((s % 256 : Nat) : Int)]
theorem tailL_wf (s : Nat) : ∀ z ∈ tailL s, (Lit.int .u8 z).wf = true := fun z hz => by
  have : 0 ≤ z ∧ z ≤ 255 := by
    unfold tailL at hz
    simp only [List.mem_cons, List.not_mem_nil, or_false] at hz
    rcases hz with rfl | rfl | rfl | rfl <;> omega
  exact wf_byte this.1 this.2
/-- The sum of bytes. -/
def sumL (l : List Int) : Nat := 4294967295 - crcTo l l.length
/-- The image of points. -/
def saveL (n : Nat) (l : List Int) : List Int := bodyL n l (n * 3) ++ tailL (sumL (bodyL n l (n * 3)))
attribute [irreducible] tailL sumL saveL
theorem sumL_eq (l : List Int) : sumL l = 4294967295 - crcTo l l.length := by unfold sumL; rfl
theorem saveL_eq (n : Nat) (l : List Int) : saveL n l = bodyL n l (n * 3) ++ tailL (sumL (bodyL n l (n * 3))) := by unfold saveL; rfl
theorem tailL_eq (s : Nat) : tailL s = [((s / 16777216 % 256 : Nat) : Int), ((s / 65536 % 256 : Nat) : Int), ((s / 256 % 256 : Nat) : Int), ((s % 256 : Nat) : Int)] := by unfold tailL; rfl
theorem saveL_wf (n : Nat) (l : List Int) : ∀ z ∈ saveL n l, (Lit.int .u8 z).wf = true := fun z hz => by
  rw [saveL_eq] at hz
  rcases List.mem_append.1 hz with e | e
  · exact bodyL_wf _ _ _ z e
  · exact tailL_wf _ z e
theorem saveL_len {n : Nat} {l : List Int} (hn : n ≤ 150) (h : ∀ j, j < n * 3 → -1048576 ≤ l.getD j 0 ∧ l.getD j 0 ≤ 1048576) : (saveL n l).length ≤ 1812 := by
  have := bodyL_len hn (n * 3) h
  rw [saveL_eq, List.length_append, tailL_eq]
  simp only [List.length_cons, List.length_nil]
  omega
end Go.Dam

/-
  Plain facts of reading numbers back out of groups of seven bits, no program in sight. Conditions: bounds on the bytes.
-/
namespace Go.Dam
set_option linter.unusedVariables false
open Go
/-- No group of bytes is the beginning of another one. -/
theorem sevL_free : ∀ k a c : Nat, ∀ x y : List Int, a ≤ k → sevL a ++ x = sevL c ++ y → a = c ∧ x = y := by
  intro k
  induction k using Nat.strongRecOn with
  | _ k ih =>
    intro a c x y hk h
    by_cases ha : a < 128
    · rw [sevL_lo ha] at h
      by_cases hc : c < 128
      · rw [sevL_lo hc] at h
        simp only [List.cons_append, List.nil_append, List.cons.injEq] at h
        exact ⟨by omega, h.2⟩
      · rw [sevL_hi (show 128 ≤ c by omega)] at h
        simp only [List.cons_append, List.nil_append, List.cons.injEq] at h
        omega
    · rw [sevL_hi (show 128 ≤ a by omega)] at h
      by_cases hc : c < 128
      · rw [sevL_lo hc] at h
        simp only [List.cons_append, List.nil_append, List.cons.injEq] at h
        omega
      · rw [sevL_hi (show 128 ≤ c by omega)] at h
        simp only [List.cons_append, List.cons.injEq] at h
        obtain ⟨h1, h2⟩ := ih (a / 128) (by omega) (a / 128) (c / 128) x y (Nat.le_refl _) h.2
        exact ⟨by omega, h2⟩
/-- The number that the first groups make. -/
def valL (r : List Int) : Nat → Nat
  | 0 => 0
  | i + 1 => valL r i + (r.getD i 0).toNat % 128 * 128 ^ i
theorem valL_0 (r : List Int) : valL r 0 = 0 := rfl
theorem valL_succ (r : List Int) (i : Nat) : valL r (i + 1) = valL r i + (r.getD i 0).toNat % 128 * 128 ^ i := rfl
theorem valL_lt (r : List Int) : ∀ i, valL r i < 128 ^ i
  | 0 => by simp [valL_0]
  | i + 1 => by
    have h := valL_lt r i
    have h2 : (r.getD i 0).toNat % 128 ≤ 127 := by omega
    have h3 : (r.getD i 0).toNat % 128 * 128 ^ i ≤ 127 * 128 ^ i := Nat.mul_le_mul_right _ h2
    rw [valL_succ, Nat.pow_succ]; omega
theorem valL_cons (b : Int) (r : List Int) : ∀ i, valL (b :: r) (i + 1) = b.toNat % 128 + 128 * valL r i
  | 0 => by rw [valL_succ, valL_0, valL_0]; simp
  | i + 1 => by
    rw [valL_succ, valL_cons b r i, valL_succ, List.getD_cons_succ, Nat.pow_succ, Nat.mul_add, Nat.mul_comm (128 ^ i) 128, ← Nat.mul_assoc, Nat.mul_comm _ 128, Nat.mul_assoc 128]
    omega
theorem valL_pos (r : List Int) (i : Nat) (h : 0 < (r.getD i 0).toNat % 128) : 0 < valL r (i + 1) := by
  rw [valL_succ]
  have : 0 < (r.getD i 0).toNat % 128 * 128 ^ i := Nat.mul_pos h (Nat.pow_pos (by decide))
  omega
/-- Groups that go on, and one that ends and is not needless. -/
theorem sevL_val : ∀ (i : Nat) (r : List Int), i < r.length → (∀ z ∈ r, 0 ≤ z ∧ z ≤ 255) → (∀ j, j < i → 128 ≤ r.getD j 0) → r.getD i 0 < 128 → (i = 0 ∨ 0 < r.getD i 0) → sevL (valL r (i + 1)) = r.take (i + 1)
  | _, [], h, _, _, _, _ => absurd h (by simp)
  | 0, b :: r, _, hb, _, hlo, _ => by
    have h1 := hb b (by simp)
    simp only [List.getD_cons_zero] at hlo
    rw [valL_cons, valL_0, sevL_lo (by omega)]
    simp only [List.take_succ_cons, List.take_zero, List.cons.injEq, and_true]
    omega
  | i + 1, b :: r, hi, hb, hhi, hlo, hnz => by
    have h1 := hb b (by simp)
    have h0 := hhi 0 (by omega)
    simp only [List.getD_cons_zero] at h0
    rw [List.getD_cons_succ] at hlo hnz
    have hnz' : 0 < r.getD i 0 := by rcases hnz with h | h; exact absurd h (by omega); exact h
    have hpos := valL_pos r i (by omega)
    have ih := sevL_val i r (by simpa using hi) (fun z hz => hb z (by simp [hz])) (fun j hj => by have := hhi (j + 1) (by omega); rwa [List.getD_cons_succ] at this) hlo (.inr hnz')
    rw [valL_cons, sevL_hi (by omega), show (b.toNat % 128 + 128 * valL r (i + 1)) / 128 = valL r (i + 1) from by omega, ih, List.take_succ_cons]
    congr 1
    omega
/-- The bytes of a number: all go on but the last one, which is not needless. -/
theorem sevL_form : ∀ k n : Nat, n ≤ k → ∃ p, (sevL n).length = p + 1 ∧ (∀ j, j < p → 128 ≤ (sevL n).getD j 0) ∧ (sevL n).getD p 0 < 128 ∧ (p = 0 ∨ 0 < (sevL n).getD p 0) := by
  intro k
  induction k using Nat.strongRecOn with
  | _ k ih =>
    intro n hn
    by_cases h : n < 128
    · rw [sevL_lo h]
      exact ⟨0, rfl, fun j hj => absurd hj (by omega), by simp only [List.getD_cons_zero]; omega, .inl rfl⟩
    · obtain ⟨p, h1, h2, h3, h4⟩ := ih (n / 128) (by omega) (n / 128) (Nat.le_refl _)
      rw [sevL_hi (by omega)]
      refine ⟨p + 1, by rw [List.length_cons, h1], fun j hj => ?_, by rw [List.getD_cons_succ]; exact h3, .inr ?_⟩
      · match j with
        | 0 => rw [List.getD_cons_zero]; omega
        | j + 1 => rw [List.getD_cons_succ]; exact h2 j (by omega)
      · rw [List.getD_cons_succ]
        rcases h4 with h4 | h4
        · subst h4
          have hl : (n / 128) < 128 := by
            by_cases g : n / 128 < 128
            · exact g
            · exfalso
              rw [sevL_hi (show 128 ≤ n / 128 by omega)] at h1
              have := sevL_pos (n / 128 / 128)
              simp only [List.length_cons] at h1
              omega
          rw [sevL_lo hl, List.getD_cons_zero]
          omega
        · exact h4
/-- A number can be read at the beginning of the bytes: in at most four of them. -/
def GetR (r : List Int) (m : Nat) (rest : List Int) : Prop := r = sevL m ++ rest ∧ (sevL m).length ≤ 4
theorem GetR.uniq {r : List Int} {m m' : Nat} {rest rest' : List Int} (h : GetR r m rest) (g : GetR r m' rest') : m = m' ∧ rest = rest' := sevL_free m m m' rest rest' (Nat.le_refl _) (h.1.symm.trans g.1)
theorem getD_app_left {l m : List Int} {j : Nat} (h : j < l.length) : (l ++ m).getD j 0 = l.getD j 0 := by
  rw [List.getD_eq_getElem?_getD, List.getElem?_append_left h, ← List.getD_eq_getElem?_getD]
/-- Bytes that begin with a number: the first one that ends is not needless, and comes among the first four. -/
theorem GetR.form {r : List Int} {m : Nat} {rest : List Int} (h : GetR r m rest) : ∃ p, p < 4 ∧ p < r.length ∧ (∀ j, j < p → 128 ≤ r.getD j 0) ∧ r.getD p 0 < 128 ∧ (p = 0 ∨ 0 < r.getD p 0) := by
  obtain ⟨p, h1, h2, h3, h4⟩ := sevL_form m m (Nat.le_refl _)
  obtain ⟨rfl, h6⟩ := h
  refine ⟨p, by omega, by rw [List.length_append]; omega, fun j hj => ?_, ?_, ?_⟩
  · rw [getD_app_left (by omega)]; exact h2 j hj
  · rw [getD_app_left (by omega)]; exact h3
  · rw [getD_app_left (by omega)]; exact h4
theorem getR_yes {r : List Int} {i : Nat} (hb : ∀ z ∈ r, 0 ≤ z ∧ z ≤ 255) (hi : i < r.length) (h4 : i < 4) (hhi : ∀ j, j < i → 128 ≤ r.getD j 0) (hlo : r.getD i 0 < 128) (hnz : i = 0 ∨ 0 < r.getD i 0) : GetR r (valL r (i + 1)) (r.drop (i + 1)) := by
  have h := sevL_val i r hi hb hhi hlo hnz
  exact ⟨by rw [h, List.take_append_drop], by rw [h, List.length_take]; omega⟩
theorem getR_needless {r : List Int} {i : Nat} (hi : i < r.length) (hhi : ∀ j, j < i → 128 ≤ r.getD j 0) (hlo : r.getD i 0 < 128) (hz : i ≠ 0 ∧ r.getD i 0 ≤ 0) (m : Nat) (rest : List Int) : ¬ GetR r m rest := fun h => by
  obtain ⟨p, _, h2, h3, h4, h5⟩ := h.form
  rcases Nat.lt_trichotomy p i with c | c | c
  · have := hhi p c; omega
  · subst c; omega
  · have := h3 i c; omega
theorem getR_long {r : List Int} {i : Nat} (hi : i = 4 ∨ i = r.length) (hhi : ∀ j, j < i → 128 ≤ r.getD j 0) (m : Nat) (rest : List Int) : ¬ GetR r m rest := fun h => by
  obtain ⟨p, h1, h2, h3, h4, h5⟩ := h.form
  have : p < i := by omega
  have := hhi p this
  omega
/-- Folded numbers, back. -/
def unfoldN (m : Nat) : Int := if m % 2 = 1 then -((m + 1 : Nat) : Int) / 2 else ((m / 2 : Nat) : Int)
theorem unfoldN_odd {m : Nat} (h : m % 2 = 1) : unfoldN m = -((m / 2 + 1 : Nat) : Int) := by unfold unfoldN; rw [if_pos h]; omega
theorem unfoldN_even {m : Nat} (h : m % 2 ≠ 1) : unfoldN m = ((m / 2 : Nat) : Int) := by unfold unfoldN; rw [if_neg h]
attribute [irreducible] unfoldN
theorem fold_unfold (m : Nat) : foldN (unfoldN m) = m := by
  by_cases h : m % 2 = 1
  · have e := unfoldN_odd h
    have := foldN_neg (x := unfoldN m) (by omega)
    omega
  · have e := unfoldN_even h
    have := foldN_pos (x := unfoldN m) (by omega)
    omega
theorem unfold_fold (x : Int) : unfoldN (foldN x) = x := by
  by_cases h : x < 0
  · have e := foldN_neg h
    have := unfoldN_odd (m := foldN x) (by omega)
    omega
  · have e := foldN_pos (x := x) (by omega)
    have := unfoldN_even (m := foldN x) (by omega)
    omega
attribute [irreducible] valL
end Go.Dam
