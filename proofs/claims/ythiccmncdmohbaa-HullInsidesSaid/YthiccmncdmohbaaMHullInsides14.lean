/-
  Contract of slices.SortFunc at a row of ints of the call's own, at whatever length: the row then holds the same numbers, sorted. Conditions: the comparing function tells a strict order by classes.
-/
import Derived.Test.YthiccmncdmohbaaMHullInsides12
import Derived.Test.YthiccmncdmohbaaMHullInsides06
import Derived.Test.YthiccmncdmohbaaShelfF
import Derived.Shelf.SlSortCmp.NoneTotal
set_option linter.unusedVariables false
set_option linter.unusedSimpArgs false
namespace Go.Proofs.Ythiccmncdmohbaa
open Go Go.RowKit Go.Dam Go.Shelf Go.Sort Go.Proofs
set_option linter.unusedVariables false
/-- A number that may stand in the row. -/
abbrev OkF (ok : Int → Prop) := { z : Int // ok z }
def encF {ok : Int → Prop} (x : OkF ok) : Value := .int .i64 x.1
theorem encF_list {ok : Int → Prop} (d : List (OkF ok)) : d.map encF = (d.map (·.1)).map (Value.int .i64) := by rw [List.map_map]; rfl
/-- What is asked of the comparing function: wherever the row holds some list of numbers that may stand in it, and all else is as it was, it compares two numbers; it may draw and lay blocks. -/
def CmpAt (ok : Int → Prop) (g : Nat) (lb : Array Value) (cf : Int → Int → Int) (base n : Nat) (v : Value) (w : World) : Prop :=
  ∀ (W : World) (l' : List Int), l'.length = n → (∀ z ∈ l', ok z) → W.ownsRow base 3 1 v n (l'.map (Value.int .i64)) → w.grownBy W v.ownBlock → ∀ x y : Int, ok x → ok y →
    Calls Try.prog g (#[.int .i64 x, .int .i64 y] ++ lb) W fun e w' => e = .returned (.int .i64 (cf x y)) ∧ ∃ q os, w' = Sort.grow (W.drewN q) os
/-- The numbers stand in order. -/
def SortedBy (cf : Int → Int → Int) (r : List Int) : Prop := ∀ u v, u < v → v < r.length → ¬ cf (r.getD v 0) (r.getD u 0) < 0
set_option maxHeartbeats 400000 in
theorem sortFunc_own {w : World} {base n c : Nat} {A : Option Addr} {l : List Int} (h : w.ownsRow base 3 1 (.slice A n c) n (l.map (Value.int .i64))) (hn : n ≤ 1000000) (ok : Int → Prop) (hok : ∀ z ∈ l, ok z) (cf : Int → Int → Int) (hO : SWO (fun x y : OkF ok => decide (cf x.1 y.1 < 0))) (g : Nat) (lb : Array Value)
    (eg : ∀ args w, (callFunc g args).run Try.prog w = .ok (.enter g args) w) (hcmp : CmpAt ok g lb cf base n (.slice A n c) w) :
    Calls Try.prog 47 #[.slice A n c, .func (.func g) #[] lb] w fun e w' => e = .returned (.tuple #[]) ∧ ∃ r : List Int, r.Perm l ∧ SortedBy cf r ∧ w'.ownsRow base 3 1 (.slice A n c) n (r.map (Value.int .i64)) ∧ w.grownBy w' (Value.slice A n c).ownBlock := by
  have hl : l.length = n := by have := h.1; simpa using this
  by_cases h1 : 1 ≤ n
  · obtain ⟨g0, cap, hv, hbase, hblt⟩ := h.form (by omega)
    rcases h.2 with ⟨hx, _⟩ | ⟨g1, cap1, cur, hv1, hb1, hb, k1, k2, k3, k4⟩
    · rw [hx] at hv; cases hv
    obtain ⟨rfl, rfl⟩ : A = some ⟨g1, 0, none⟩ ∧ c = cap1 := by injection hv1 with a b c; exact ⟨a, c⟩
    subst hl
    obtain ⟨lB, hlB⟩ : ∃ lB : List (OkF ok), lB.map (·.1) = l := ⟨l.attachWith ok hok, by simp⟩
    have hlen : lB.length = l.length := by rw [← hlB, List.length_map]
    have hin : Inhabited (OkF ok) := ⟨lB.get ⟨0, by omega⟩⟩
    have hEl : lB.map encF = l.map (Value.int .i64) := by rw [encF_list, hlB]
    have hH : Sort.Holds encF w g1 0 lB.toArray := holds_blockE hb (by rw [hlen, hEl]; simpa using k4)
    have hg1 : g1 < w.heap.size := (Array.getElem?_eq_some_iff.1 hb).1
    have hCL : CmpLays1 Try.prog g lb encF (fun x y : OkF ok => cf x.1 y.1) g1 0 lB.toArray.size w := by
      intro m os dk hs x y
      have hs' : dk.toList.length = l.length := by rw [Array.length_toList, hs]; simp [hlen]
      have o1 := ownsRow_sortedE (enc := encF) (base := base) (n := m) (os := os) (ss := lB) (ts := dk.toList) (by rw [hs', hlen]) hb1 hb (by rw [hlen]; exact k1) k2 k3
      rw [hlen, encF_list, Array.toArray_toList] at o1
      have o2 := grownBy_sortedE (enc := encF) (w := w) (g := g1) (n := m) (os := os) dk
      exact hcmp _ (dk.toList.map (·.1)) (by rw [List.length_map, hs']) (fun z hz => by obtain ⟨y, _, rfl⟩ := List.mem_map.1 hz; exact y.2) o1 o2 x.1 y.1 x.2 y.2
    have hS := Any.slices_SortFunc Try.sortF encF (fun _ => rfl) (fun x y : OkF ok => cf x.1 y.1) hO g lb g1 0 c lB.toArray w eg hCL hH hg1 (by simp [hlen]; omega)
    have hz : lB.toArray.size = l.length := by simp [hlen]
    rw [hz] at hS
    change Calls Try.prog 47 _ _ _ at hS
    refine hS.mono ?_
    rintro e w' ⟨rfl, d', m, os, hp, hsr, rfl⟩
    have hz' : d'.size = l.length := by rw [hp.1]; simp [hlen]
    have hs' : d'.toList.length = l.length := by rw [Array.length_toList, hz']
    have o1 := ownsRow_sortedE (enc := encF) (base := base) (n := m) (os := os) (ss := lB) (ts := d'.toList) (by rw [hs', hlen]) hb1 hb (by rw [hlen]; exact k1) k2 k3
    rw [hlen, encF_list, Array.toArray_toList] at o1
    refine ⟨rfl, _, ?_, ?_, o1, grownBy_sortedE d'⟩
    · rw [← hlB]
      refine List.Perm.map _ ?_
      have h5 := hp.2.2
      have e1 : d'.extract 0 l.length = d' := by rw [← hz', Array.extract_size]
      have e2 : lB.toArray.extract 0 l.length = lB.toArray := by rw [← hz, Array.extract_size]
      rw [e1, e2] at h5
      simpa using h5
    · intro u v huv hv
      rw [List.length_map, hs'] at hv
      have h6 := hsr u v (Nat.zero_le _) huv hv
      have e1 : ∀ k, k < d'.size → (d'.toList.map (·.1)).getD k 0 = d'[k]!.1 := fun k hk => by
        rw [List.getD_eq_getElem?_getD, List.getElem?_map, List.getElem?_eq_getElem (by simpa using hk), getElem!_pos d' k hk]; simp
      rw [e1 u (by omega), e1 v (by omega)]
      simpa [ltOf] using h6
  · obtain rfl : n = 0 := by omega
    obtain rfl : l = [] := List.eq_nil_of_length_eq_zero hl
    have hS := AnyF.slices_SortFunc_none (P := Try.prog) (ρ := Try.sortF_ren) { Try.sortF with } A c (.func (.func g) #[] lb) w
    change Calls Try.prog 47 _ _ _ at hS
    refine hS.mono ?_
    rintro e w' ⟨rfl, rfl⟩
    exact ⟨rfl, [], List.Perm.refl _, fun u v _ hv => absurd hv (by simp), h, ⟨rfl, rfl, rfl, Nat.le_refl _, fun _ _ _ => rfl⟩⟩
end Go.Proofs.Ythiccmncdmohbaa
