/-
  Contracts of slices.Collect and slices.Sorted behind slices.Values, and of slices.Sort and slices.Compact at a row of the call's own. Conditions: the list can be read as data and has at most 1000000 numbers.
-/
import Derived.Test.YthiccmncdmohbaaGreatMGridTops19
import Derived.Test.YthiccmncdmohbaaGreatMGridTops21
import Derived.Test.YthiccmncdmohbaaGreatMGridTops23
import Derived.Test.YthiccmncdmohbaaGreatMGridTops05
import Derived.CallsIn
set_option linter.unusedVariables false
set_option linter.unusedSimpArgs false
namespace Go.Proofs.YthiccmncdmohbaaGreat
open Go Go.RowKit Go.Dam Go.Shelf Go.Proofs
set_option linter.unusedVariables false
/-- A list that can be read is what slices.Values runs over. -/
theorem IsInts.seq {w : World} {B : Nat} {v : Value} {l : List Int} (h : IsInts .i64 w B v l) : SeqInts B w v l := by
  obtain ⟨A, c, rfl, hc, hm, hn, hr, hw⟩ := h
  rcases Nat.eq_zero_or_pos l.length with h0 | h0
  · exact .inl ⟨A, c, by rw [h0], List.eq_nil_of_length_eq_zero h0⟩
  · obtain ⟨b, off, rfl, hb, hcells⟩ := ints_cells hr h0
    exact .inr ⟨b, off, c, rfl, hb, fun j hj => by rw [hcells j hj, List.getD_eq_getElem?_getD]⟩
theorem SeqInts.more {w : World} {B B' : Nat} {v : Value} {l : List Int} (h : SeqInts B w v l) (hB : B ≤ B') : SeqInts B' w v l := by
  rcases h with h | ⟨b, off, cap, h1, h2, h3⟩
  · exact .inl h
  · exact .inr ⟨b, off, cap, h1, by omega, h3⟩
set_option maxHeartbeats 1000000 in
theorem seqCollect_in (F : Fence) (n : Nat) (h2 : F.fn 71) (h3 : F.fn 81) (h5 : F.fn 73) (hro : F.round = none) (hn : 4 ≤ n) (Bs : Nat) (sv : Value) (xs : List Int) (hlen : xs.length ≤ 1000000) (w : World) (hBs : Bs < w.heap.size) (hc : w.cell? ⟨Bs, 0, none⟩ = some sv) (hI : SeqInts w.heap.size w sv xs) :
    CallsIn F n Tryz.prog 71 #[.func (.func 73) #[] #[.pointer (some ⟨Bs, 0, none⟩)]] w fun e W' => ∃ v, e = .returned v ∧ W'.ownsRow w.heap.size 3 1 v xs.length (xs.map (Value.int .i64)) ∧ Below w.heap.size w W' := by
  have h1 : 1 ≤ n := by omega
  have HA := Lib.hid (appendSeq_in F (n - 1) h3 h5 hro (by omega) Bs sv xs hlen w hBs hc hI)
  refine callsIn_of_wp Tryz.func71 rfl h2 ?_ hro
  simp only [Tryz.ntmps71, List.size_toArray, List.length_cons, List.length_nil, Nat.reduceAdd, Nat.reduceSub, Array.replicate_succ, Array.replicate_zero, List.push_toArray, List.append_toArray, List.nil_append, List.cons_append]
  gi_wp2_with (gi_at_call 81; refine (HA.out).mono ?_; rintro e w1 ⟨v, rfl, hown, hb⟩; have HO := Lib.hid hown; have HB := Lib.hid hb; obtain ⟨A1, c1, rfl⟩ := own_shape hown; clear hown hb)
  go_ret
  exact ⟨_, rfl, HO.out, HB.out⟩
theorem seqCollect_any (Bs : Nat) (sv : Value) (xs : List Int) (hlen : xs.length ≤ 1000000) (w : World) (hBs : Bs < w.heap.size) (hc : w.cell? ⟨Bs, 0, none⟩ = some sv) (hI : SeqInts w.heap.size w sv xs) :
    Calls Tryz.prog 71 #[.func (.func 73) #[] #[.pointer (some ⟨Bs, 0, none⟩)]] w fun e W' => ∃ v, e = .returned v ∧ W'.ownsRow w.heap.size 3 1 v xs.length (xs.map (Value.int .i64)) ∧ Below w.heap.size w W' :=
  (callsIn_wide (n := 6)).1 (seqCollect_in Fence.wide 6 trivial trivial trivial rfl (by omega) Bs sv xs hlen w hBs hc hI)
theorem sortSlice_own {w : World} {base n c : Nat} {e : TypeId} {A : Option Addr} {l : List Int} (h : w.ownsRow base e 1 (.slice A n c) n (l.map (Value.int .i64))) (hn : n ≤ 1099511627776) :
    Calls Tryz.prog 72 #[.slice A n c] w fun e' w' => e' = .returned (.tuple #[]) ∧ w'.ownsRow base e 1 (.slice A n c) n ((sortI l).map (Value.int .i64)) ∧ w.grownBy w' (Value.slice A n c).ownBlock := by
  have hl : l.length = n := by have := h.1; simpa using this
  subst hl
  have h0 := h
  rcases h.2 with ⟨hv, hx⟩ | ⟨g, cap, cur, hv, hbase, hb, h1, h2, h3, h4⟩
  · obtain ⟨rfl, h0l, rfl⟩ : A = none ∧ l.length = 0 ∧ c = 0 := by injection hv with a b c; exact ⟨a, b, c⟩
    obtain rfl : l = [] := List.length_eq_zero_iff.1 h0l
    have he : sortI [] = [] := List.length_eq_zero_iff.1 (by rw [sortI_len]; rfl)
    rw [he]
    exact (Tryz.slices_Sort_int_none none 0 w).mono fun e' w' ⟨a, b⟩ => ⟨a, by rw [b]; exact h0, by rw [b]; exact World.grownBy.refl _ _⟩
  · obtain ⟨rfl, rfl⟩ : A = some ⟨g, 0, none⟩ ∧ c = cap := by injection hv with a b c; exact ⟨a, c⟩
    refine (Tryz.slices_Sort_int g 0 c l w (holds_blockE hb (by simpa using h4)) (Array.getElem?_eq_some_iff.1 hb).1 (by omega)).mono ?_
    rintro e' w' ⟨rfl, nn, os, rfl⟩
    rw [sortI_eq]
    exact ⟨rfl, ownsRow_sortedE (sortI_len l) hbase hb h1 h2 h3, grownBy_sortedE _⟩
theorem own_cut {w : World} {base n d c : Nat} {e : TypeId} {A : Option Addr} {xs : List Value} (h : w.ownsRow base e 1 (.slice A n c) n xs) (hd : d ≤ n) (hn : 0 < n) : w.ownsRow base e 1 (.slice A d c) d (xs.take d) := by
  have hl := h.1
  refine ⟨by rw [List.length_take]; omega, ?_⟩
  rcases h.2 with ⟨_, h0⟩ | ⟨g, cap, cur, hv, h1, h2, h3, h4, h5, h6⟩
  · omega
  · obtain ⟨rfl, rfl⟩ : A = some ⟨g, 0, none⟩ ∧ c = cap := by injection hv with a b c; exact ⟨a, c⟩
    refine .inr ⟨g, c, cur, rfl, h1, h2, by omega, h4, h5, ?_⟩
    rw [← h6, List.take_take]; congr 1; omega
theorem compact_len_le (l : List Int) : (Lib.compact l).length ≤ l.length := by
  unfold Lib.compact Lib.compactUpTo
  rw [List.length_map]
  exact Nat.le_trans (List.length_filter_le _ _) (by simp)
theorem compact_own {w : World} {base n c : Nat} {e : TypeId} {A : Option Addr} {l : List Int} (h : w.ownsRow base e 1 (.slice A n c) n (l.map (Value.int .i64))) (hn : n ≤ 1099511627776) :
    Calls Tryz.prog 41 #[.slice A n c] w fun e' w' => e' = .returned (.slice A (Lib.compact l).length c) ∧ w'.ownsRow base e 1 (.slice A (Lib.compact l).length c) (Lib.compact l).length ((Lib.compact l).map (Value.int .i64)) ∧ w.grownBy w' (Value.slice A n c).ownBlock := by
  have hl : l.length = n := by have := h.1; simpa using this
  subst hl
  have h0 := h
  rcases Nat.eq_zero_or_pos l.length with hz | hz
  · obtain rfl : l = [] := List.length_eq_zero_iff.1 hz
    exact (Tryz.slices_Compact_int_empty A c w).mono fun e' w' ⟨a, b⟩ => ⟨a, by rw [b]; exact h0, by rw [b]; exact World.grownBy.refl _ _⟩
  rcases h.2 with ⟨hv, hx⟩ | ⟨g, cap, cur, hv, hbase, hb, h1, h2, h3, h4⟩
  · omega
  · obtain ⟨rfl, rfl⟩ : A = some ⟨g, 0, none⟩ ∧ c = cap := by injection hv with a b c; exact ⟨a, c⟩
    refine (Tryz.slices_Compact_int g 0 c l w (holds_blockE hb (by simpa using h4)) (by omega) h1).mono ?_
    rintro e' w' ⟨rfl, q, rfl⟩
    have hcl := compact_len_le l
    have hlen : (Lib.compact l ++ List.replicate (l.length - (Lib.compact l).length) 0).length = l.length := by rw [List.length_append, List.length_replicate]; omega
    have o1 := ownsRow_sortedE (enc := Value.int .i64) (base := base) (n := q) (os := #[]) (ss := l) (ts := Lib.compact l ++ List.replicate (l.length - (Lib.compact l).length) 0) hlen hbase hb h1 h2 h3
    rw [Sort.grow_empty] at o1
    have o2 := own_cut o1 hcl hz
    rw [List.map_append, List.take_left' (by simp)] at o2
    have g1 := grownBy_sortedE (enc := Value.int .i64) (w := w) (g := g) (n := q) (os := #[]) (Lib.compact l ++ List.replicate (l.length - (Lib.compact l).length) 0).toArray
    rw [Sort.grow_empty] at g1
    exact ⟨rfl, o2, g1⟩
end Go.Proofs.YthiccmncdmohbaaGreat
