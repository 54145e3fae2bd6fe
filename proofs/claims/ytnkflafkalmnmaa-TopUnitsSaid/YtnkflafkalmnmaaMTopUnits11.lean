/-
  slices.SortFunc at klee's borders, a row of structs of the call's own: the row then holds the same borders, sorted by where they stand. Conditions: none of its own.
-/
import Derived.Test.YtnkflafkalmnmaaMTopUnits09
import Derived.Test.YtnkflafkalmnmaaMTopUnits05
import Derived.Test.YtnkflafkalmnmaaMTopUnits10
import Derived.Test.YtnkflafkalmnmaaMTopUnits00
import Derived.Shelf.SlSortCmp.NoneTotal
namespace Go.Dam.Klee
open Go Go.RowKit Go.Sort Go.Proofs
set_option linter.unusedVariables false
/-- A border's four cells. -/
def encB (b : Bd) : List Value := [.int .i64 b.1, .int .i64 b.2.1, .int .i64 b.2.2.1, .int .i64 b.2.2.2]
/-- Borders, one behind the other. -/
def flatB : List Bd → List Int
  | [] => []
  | b :: r => b.1 :: b.2.1 :: b.2.2.1 :: b.2.2.2 :: flatB r
theorem flatB_app : ∀ (a b : List Bd), flatB (a ++ b) = flatB a ++ flatB b
  | [], b => rfl
  | x :: a, b => by rw [List.cons_append, flatB, flatB, flatB_app a b]; rfl
theorem flatB_len : ∀ a : List Bd, (flatB a).length = a.length * 4
  | [] => rfl
  | x :: a => by rw [flatB, List.length_cons, List.length_cons, List.length_cons, List.length_cons, flatB_len a, List.length_cons]; omega
theorem flatB_at : ∀ (a : List Bd) (i : Nat), i < a.length → (flatB a).getD (i * 4) 0 = (a.getD i (0, 0, 0, 0)).1 ∧ (flatB a).getD (i * 4 + 1) 0 = (a.getD i (0, 0, 0, 0)).2.1 ∧ (flatB a).getD (i * 4 + 2) 0 = (a.getD i (0, 0, 0, 0)).2.2.1 ∧ (flatB a).getD (i * 4 + 3) 0 = (a.getD i (0, 0, 0, 0)).2.2.2
  | x :: a, 0, _ => ⟨rfl, rfl, rfl, rfl⟩
  | x :: a, i + 1, h => by
    have ih := flatB_at a i (by simpa using h)
    rw [flatB, show (i + 1) * 4 = i * 4 + 1 + 1 + 1 + 1 from by omega, show i * 4 + 1 + 1 + 1 + 1 + 1 = (i * 4 + 1) + 1 + 1 + 1 + 1 from by omega, show i * 4 + 1 + 1 + 1 + 1 + 2 = (i * 4 + 2) + 1 + 1 + 1 + 1 from by omega, show i * 4 + 1 + 1 + 1 + 1 + 3 = (i * 4 + 3) + 1 + 1 + 1 + 1 from by omega]
    simp only [List.getD_cons_succ]
    exact ih
theorem flatK_B (a : List Bd) : flatK encB 4 a.toArray = ((flatB a).map (Value.int .i64)).toArray := by
  refine Array.ext (by simp [flatB_len]) fun t h1 h2 => ?_
  have ht : t < a.length * 4 := by simpa using h1
  have h := get_flatK encB 4 a.toArray t (by simpa using ht)
  rw [getElem!_pos _ t h1] at h
  rw [h]
  have hq : t / 4 < a.length := by omega
  have hf := flatB_at a (t / 4) hq
  have e1 : a.toArray[t / 4]! = a.getD (t / 4) (0, 0, 0, 0) := by
    rw [List.getD_eq_getElem?_getD, List.getElem?_eq_getElem hq, getElem!_pos _ _ (by simpa using hq)]; simp
  rw [e1]
  have e2 : ((flatB a).map (Value.int .i64)).toArray[t] = Value.int .i64 ((flatB a).getD t 0) := by
    have : t < (flatB a).length := by rw [flatB_len]; omega
    rw [List.getD_eq_getElem?_getD, List.getElem?_eq_getElem this]; simp
  rw [e2]
  generalize a.getD (t / 4) (0, 0, 0, 0) = b at hf
  have hm : t % 4 < 4 := Nat.mod_lt _ (by decide)
  obtain ⟨q, r, rfl, hr, hq2⟩ : ∃ q r, t = q * 4 + r ∧ r < 4 ∧ t / 4 = q := ⟨t / 4, t % 4, by omega, hm, rfl⟩
  rw [hq2] at hf
  have hr2 : (q * 4 + r) % 4 = r := by omega
  rw [hr2]
  match r, hr with
  | 0, _ => rw [Nat.add_zero, hf.1]; rfl
  | 1, _ => rw [hf.2.1]; rfl
  | 2, _ => rw [hf.2.2.1]; rfl
  | 3, _ => rw [hf.2.2.2]; rfl
theorem ownsRow_sorted4 {w : World} {base g cap n m : Nat} {e : TypeId} {os : Array Obj} {cur : Array Value} {ts : List Value} (hl : ts.length = m * 4) (hbase : base ≤ g) (hb : w.heap[g]? = some (.cells cur e (0, 0)))
    (h1 : m ≤ cap) (h2 : cap ≤ maxLen) (h3 : cur.size = cap * 4) :
    (grow (putRow id (Sort.ahead w n) g 0 ts.toArray) os).ownsRow base e 4 (.slice (some ⟨g, 0, none⟩) m cap) m ts :=
  ⟨hl, .inr ⟨g, cap, _, rfl, hbase, heap_sortedE (enc := id) _ hb, h1, h2, by simp [putCells, h3], by
    have := take_putCellsE (enc := id) cur ts (by omega)
    rw [hl] at this
    rw [this, List.map_id]⟩⟩
theorem swoB : SWO (ltOf fun x y : Bd => Lib.compareInt x.1 y.1) := by
  have e : ∀ x y : Bd, ltOf (fun x y : Bd => Lib.compareInt x.1 y.1) x y = decide (x.1 < y.1) := fun x y => by
    unfold ltOf Lib.compareInt
    by_cases h1 : x.1 < y.1
    · simp [h1]
    · by_cases h2 : y.1 < x.1 <;> simp [h1, h2]
  refine ⟨fun x => by rw [e]; simp, fun x y z h1 h2 => ?_, fun x y z h1 h2 => ?_⟩
  · rw [e] at *; simp at *; omega
  · rw [e] at *; simp at *; omega
theorem ltB {x y : Bd} (h : ltOf (fun x y : Bd => Lib.compareInt x.1 y.1) y x = false) : x.1 ≤ y.1 := by
  unfold ltOf Lib.compareInt at h
  by_cases h1 : y.1 < x.1
  · simp [h1] at h
  · omega
end Go.Dam.Klee
namespace Go.Proofs.Ytnkflafkalmnmaa
open Go Go.RowKit Go.Dam Go.Dam.Klee Go.Shelf Go.Sort Go.Proofs
set_option linter.unusedVariables false
set_option maxHeartbeats 1000000 in
theorem sweep1_any (x y : Bd) (W : World) : Calls Try.prog 26 #[.agg #[.int .i64 x.1, .int .i64 x.2.1, .int .i64 x.2.2.1, .int .i64 x.2.2.2], .agg #[.int .i64 y.1, .int .i64 y.2.1, .int .i64 y.2.2.1, .int .i64 y.2.2.2]] W fun e w' => e = .returned (.int .i64 (Lib.compareInt x.1 y.1)) ∧ ∃ q os', w' = Sort.grow (W.drewN q) os' := by
  have hcon := fun W' => AnyG.cmp_Compare_int Try.cmpIntB x.1 y.1 W'
  change ∀ W', Calls Try.prog 27 _ _ _ at hcon
  generalize Lib.compareInt x.1 y.1 = r at hcon ⊢
  go_enter Try.func26, Try.ntmps26
  go_wp2_with (go_at_call 27; refine (hcon _).mono ?_; rintro e w' ⟨rfl, rfl⟩)
  go_ret
  exact ⟨rfl, 0, _, by rw [alloc_eq_grow, alloc_eq_grow, grow_grow]; rfl⟩
set_option maxHeartbeats 1000000 in
theorem sortBd_own {w : World} {base n c : Nat} {A : Option Addr} {bs : List Bd} (h : w.ownsRow base 57 4 (.slice A n c) n ((flatB bs).map (Value.int .i64))) (hn : n ≤ 1000000) :
    Calls Try.prog 25 #[.slice A n c, .func (.func 26) #[] #[]] w fun e w' => e = .returned (.tuple #[]) ∧ ∃ r : List Bd, r.Perm bs ∧ SortX r ∧ w'.ownsRow base 57 4 (.slice A n c) n ((flatB r).map (Value.int .i64)) ∧ w.grownBy w' (Value.slice A n c).ownBlock := by
  have hl : bs.length = n := by have := h.1; rw [List.length_map, flatB_len] at this; omega
  by_cases h1 : 1 ≤ n
  · rcases h.2 with ⟨hx, h0⟩ | ⟨g1, cap1, cur, hv1, hb1, hb, k1, k2, k3, k4⟩
    · omega
    obtain ⟨rfl, rfl⟩ : A = some ⟨g1, 0, none⟩ ∧ c = cap1 := by injection hv1 with a b c; exact ⟨a, c⟩
    have hH : HoldsK encB 4 w g1 0 bs.toArray := by
      unfold HoldsK
      rw [flatK_B]
      exact holds_blockE (enc := id) hb (by rw [List.length_map, flatB_len, hl, List.map_id]; exact k4)
    have hg1 : g1 < w.heap.size := (Array.getElem?_eq_some_iff.1 hb).1
    have hCL : CmpLays Try.prog 26 #[] encB 4 (fun x y : Bd => Lib.compareInt x.1 y.1) g1 0 bs.toArray.size w := fun m os dk hs x y => sweep1_any x y _
    have hS := AnyQ.slices_SortFunc Try.sortB 4 Try.isAgg57 Try.sizeOf57 encB (fun _ => rfl) (fun x v hv => by simp [encB] at hv; rcases hv with rfl | rfl | rfl | rfl <;> rfl) (fun x y : Bd => Lib.compareInt x.1 y.1) swoB 26 #[] g1 0 c bs.toArray w (enters_of Try.func26 (by kernel_rfl) rfl) hCL hH hg1 (by simp [hl]; omega)
    have hz : bs.toArray.size = n := by simp [hl]
    rw [hz] at hS
    change Calls Try.prog 25 _ _ _ at hS
    refine hS.mono ?_
    rintro e w' ⟨rfl, d', m, os, hp, hsr, rfl⟩
    have hz' : d'.size = n := by rw [hp.1, hz]
    have hd : d'.toList.length = n := by rw [Array.length_toList, hz']
    have hfl : flatK encB 4 d' = ((flatB d'.toList).map (Value.int .i64)).toArray := by
      have := flatK_B d'.toList
      rwa [Array.toArray_toList] at this
    have o1 := ownsRow_sorted4 (base := base) (n := m) (os := os) (m := n) (ts := (flatB d'.toList).map (Value.int .i64)) (by rw [List.length_map, flatB_len, hd]) hb1 hb k1 k2 k3
    have o2 := grownBy_sortedE (enc := id) (w := w) (g := g1) (n := m) (os := os) (flatK encB 4 d')
    refine ⟨rfl, d'.toList, ?_, ?_, ?_, o2⟩
    · have h5 := hp.2.2
      have e1 : d'.extract 0 n = d' := by rw [← hz', Array.extract_size]
      have e2 : bs.toArray.extract 0 n = bs.toArray := by rw [← hz, Array.extract_size]
      rw [e1, e2] at h5
      simpa using h5
    · intro u v huv hv
      rw [hd] at hv
      have h6 := ltB (hsr u v (Nat.zero_le _) huv hv)
      have e1 : ∀ k, k < d'.size → bx d'.toList k = d'[k]!.1 := fun k hk => by
        unfold bx
        rw [List.getD_eq_getElem?_getD, List.getElem?_eq_getElem (by simpa using hk), getElem!_pos d' k hk]; simp
      rw [e1 u (by omega), e1 v (by omega)]
      exact h6
    · unfold sortWorldK putRowK
      rw [hfl]
      exact o1
  · obtain rfl : n = 0 := by omega
    have hS := AnyF.slices_SortFunc_none Try.sortB A c (.func (.func 26) #[] #[]) w
    change Calls Try.prog 25 _ _ _ at hS
    refine hS.mono ?_
    rintro e w' ⟨rfl, rfl⟩
    exact ⟨rfl, bs, List.Perm.refl _, fun u v _ hv => absurd hv (by omega), h, ⟨rfl, rfl, rfl, Nat.le_refl _, fun _ _ _ => rfl⟩⟩
end Go.Proofs.Ytnkflafkalmnmaa
