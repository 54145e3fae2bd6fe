/-
  Contracts of image.fold, image.put and of the reference's twice and sevens: a number's bytes. Conditions: a number of at most 2^21.
-/
import Derived.Test.YthiccmncdmohbaaMHullInsides01
import Derived.Test.YthiccmncdmohbaaMHullInsides25
import Derived.Test.YthiccmncdmohbaaMHullInsides07
import Derived.Test.YthiccmncdmohbaaMHullInsides03
import Derived.ArgAppend
set_option linter.unusedVariables false
set_option linter.unusedSimpArgs false
namespace Go.Proofs.Ythiccmncdmohbaa
open Go Go.RowKit Go.Dam
set_option linter.unusedVariables false
/-- A row of bytes of the call's own. -/
def OwnB (w : World) (K : Nat) (v : Value) (l : List Int) : Prop := w.ownsRow K 5 1 v l.length (l.map (Value.int .u8))
/-- A row of bytes of the call's own; or a literal's row, which is full. -/
def PutB (w : World) (K : Nat) (v : Value) (l : List Int) : Prop :=
  OwnB w K v l ∨ ∃ g, v = .slice (some ⟨g, 0, none⟩) l.length l.length ∧ K ≤ g ∧ g < w.heap.size ∧ ∀ j u, (l.map (Value.int .u8))[j]? = some u → w.cell? ⟨g, j, none⟩ = some u
theorem PutB.shape {w : World} {K : Nat} {v : Value} {l : List Int} (h : PutB w K v l) : ∃ A c, v = .slice A l.length c := by
  rcases h with h | ⟨g, h, _⟩
  · exact own_shape h
  · exact ⟨_, _, h⟩
theorem PutB.alloc {w : World} {K : Nat} {v : Value} {l : List Int} (h : PutB w K v l) (o : Obj) : PutB (w.alloc o) K v l := by
  rcases h with h | ⟨g, h1, h2, h3, h4⟩
  · exact .inl (h.alloc o)
  · exact .inr ⟨g, h1, h2, by simp; omega, fun j u hu => by rw [World.cell?_alloc_lt w o _ h3]; exact h4 j u hu⟩
theorem wpList_pushPB {P : Program} {w : World} {z : Value} {T : TypeId} (el : El P T 5 z 1 1) {ops : Array Oper} {rest : List Oper} {o : Oper} {a : Act} {Q : Exit → Act → World → Prop} (hgd : o.guard = none) (s x : Operand)
    (ho : o.op = .call { callee := .builtin .append, args := #[s, x], argTypes := #[T, T] })
    (base : Nat) (v : Value) (l : List Int) (hown : PutB w base v l) (hs : a.eval s = v)
    (g c : Nat) (b : Int) (hx : a.eval x = .slice (some ⟨g, 0, none⟩) 1 c) (hu : w.cell? ⟨g, 0, none⟩ = some (.int .u8 b))
    (h63 : l.length + 1 ≤ 100000000) (hbase : base ≤ w.heap.size)
    (h : ∀ v' w', OwnB w' base v' (l ++ [b]) → w.grownBy w' v.ownBlock → LiesOr w.heap.size v v' → wpList P ops Q rest (a.put o.dst v') w') : wpList P ops Q (o :: rest) a w := by
  rcases hown with hown | ⟨g1, rfl, h2, h3, h4⟩
  · refine wpList_pushD el hgd s x ho base v l.length _ hown hs g c _ hx hu rfl (by omega) (by omega) hbase fun v' w' k1 k2 k3 => h v' w' ?_ k2 k3
    unfold OwnB; rw [List.length_append, List.map_append]; exact k1
  · obtain ⟨i, hi, hz, hz1, hz2⟩ := el.info
    refine wpList_append_arg w hgd s x T ho 5 i z 1 1 el.ht hi hz hz1 hz2 el.hz (by decide) g1 0 l.length l.length (l.map (Value.int .u8)) hs (by simp) (fun j u hu => by rw [Nat.zero_add]; exact h4 j u hu) ⟨g, 0, none⟩ 1 c [.int .u8 b] hx rfl ?_ ?_ (fun hle => absurd hle (by omega)) (by unfold maxLen; omega) (by omega) (fun hle => absurd hle (by omega)) fun _ v' w' k1 k2 => h v' w' ?_ ?_ ?_
    · intro j y hj
      cases j with
      | zero => simp at hj; subst hj; exact hu
      | succ j => simp at hj
    · intro y hy
      simp at hy; subst hy; rfl
    · have k3 := Go.Joins.ownsRow_le k1 hbase
      unfold OwnB; rw [List.length_append, List.map_append]; exact k3
    · exact ⟨k2.os, k2.tape, k2.output, k2.size, fun k hk _ => k2.block k hk (by simp)⟩
    · exact fun k hk => .inr (k1.lt k hk).1
theorem ownB_one (l : List Int) : ∀ u ∈ l.map (Value.int .u8), u.oneCell' = true := fun u hu => by obtain ⟨z, _, rfl⟩ := List.mem_map.1 hu; rfl
theorem ownB_news {w : World} {K g cu : Nat} {l : List Int} (h : OwnB w K (.slice (some ⟨g, 0, none⟩) l.length cu) l) : ∀ j x, (l.map (Value.int .u8))[j]? = some x → w.cell? ((⟨g, 0, none⟩ : Addr).add j) = some x := fun j x hx => by
  have hj : j < l.length := by
    rcases Nat.lt_or_ge j l.length with h | h
    · exact h
    · rw [List.getElem?_eq_none (by simpa using h)] at hx; cases hx
  rw [add_zero_addr, h.cellAt j (by rw [Nat.mul_one]; exact hj)]
  exact hx
theorem ownB_block {w : World} {K c : Nat} {A : Option Addr} {l : List Int} (h : OwnB w K (.slice A l.length c) l) (hl : 1 ≤ l.length) : ∃ g, A = some ⟨g, 0, none⟩ := by
  obtain ⟨g, cap, hv, _⟩ := h.form (by omega)
  injection hv with a b c
  exact ⟨g, a⟩
end Go.Proofs.Ythiccmncdmohbaa
