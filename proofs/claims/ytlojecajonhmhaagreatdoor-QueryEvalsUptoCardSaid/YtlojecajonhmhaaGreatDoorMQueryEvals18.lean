/-
  Rows of words of the call's own that a row of structs holds: how they are kept while other rows grow, and what they read as. Conditions: none; nothing here names the program.
-/
import Derived.Test.YtlojecajonhmhaaGreatDoorMQueryEvals06
import Derived.Test.YtlojecajonhmhaaGreatDoorMQueryEvals14
set_option linter.unusedVariables false
set_option linter.unusedSimpArgs false
namespace Go.Dam
open Go Go.RowKit
set_option linter.unusedVariables false
/-- Each of these slices is a row of words of the call's own. -/
def OwnWs (U : TypeId) (w : World) (base : Nat) (ss : List Value) (wss : List (List Nat)) : Prop :=
  ss.length = wss.length ∧ ∀ i, i < wss.length → w.ownsRow base U 1 (ss.getD i undef) (wss.getD i []).length ((wss.getD i []).map wordV) ∧ (∀ z ∈ wss.getD i [], z < 18446744073709551616) ∧ (wss.getD i []).length ≤ 1000
section
variable {U : TypeId} {w w' : World} {base : Nat} {ss : List Value} {wss : List (List Nat)}
theorem OwnWs.nil (U : TypeId) (w : World) (base : Nat) : OwnWs U w base [] [] := ⟨rfl, fun i h => absurd h (by simp)⟩
theorem OwnWs.keep (h : OwnWs U w base ss wss) (hk : ∀ v n xs, w.ownsRow base U 1 v n xs → w'.ownsRow base U 1 v n xs) : OwnWs U w' base ss wss :=
  ⟨h.1, fun i hi => ⟨hk _ _ _ (h.2 i hi).1, (h.2 i hi).2⟩⟩
theorem OwnWs.alloc (h : OwnWs U w base ss wss) (o : Obj) : OwnWs U (w.alloc o) base ss wss := h.keep fun v n xs k => k.alloc o
theorem OwnWs.drewN (h : OwnWs U w base ss wss) (n : Nat) : OwnWs U (w.drewN n) base ss wss := h.keep fun v n xs k => k
theorem OwnWs.below (h : OwnWs U w base ss wss) (hb : Below w.heap.size w w') : OwnWs U w' base ss wss := h.keep fun v n xs k => own_size k hb
theorem OwnWs.grown {base' size n : Nat} {to : TypeId} {v : Value} {xs : List Value} (h : OwnWs U w base ss wss) (ho : w.ownsRow base' to size v n xs) (hne : to ≠ U) (hg : w.grownBy w' v.ownBlock) : OwnWs U w' base ss wss :=
  h.keep fun u m ys k => (own_apart ho k hne).kept hg k
theorem own_far {base size n : Nat} {to e : TypeId} {v : Value} {xs : List Value} {cs : Array Value} {p : Addr} (h : w.ownsRow base e size v n xs) (hp : Blk w p.block to cs) (hne : to ≠ e) (x : Value) : (w.setCell p x).ownsRow base e size v n xs := by
  rcases h.2 with ⟨rfl, rfl⟩ | ⟨g, cap, cur, rfl, h1, h2, rest⟩
  · exact ⟨h.1, .inl ⟨rfl, rfl⟩⟩
  · refine ⟨h.1, .inr ⟨g, cap, cur, rfl, h1, ?_, rest⟩⟩
    have hg : g ≠ p.block := by
      rintro rfl
      unfold Blk at hp
      rw [h2] at hp
      injection hp with hp
      injection hp with _ ht
      exact hne ht.symm
    exact (Below.heap_setCell w p x g hg).trans h2
theorem OwnWs.far {to : TypeId} {cs : Array Value} {p : Addr} (h : OwnWs U w base ss wss) (hp : Blk w p.block to cs) (hne : to ≠ U) (x : Value) : OwnWs U (w.setCell p x) base ss wss := h.keep fun v n xs k => own_far k hp hne x
theorem getS_old {α : Type} (l : List α) (x d : α) {i : Nat} (h : i < l.length) : (l ++ [x]).getD i d = l.getD i d := by
  rw [List.getD_eq_getElem?_getD, List.getElem?_append_left h, ← List.getD_eq_getElem?_getD]
theorem getS_new {α : Type} (l : List α) (x d : α) {i : Nat} (h : i = l.length) : (l ++ [x]).getD i d = x := by
  subst h
  rw [List.getD_eq_getElem?_getD, List.getElem?_append_right (Nat.le_refl _), Nat.sub_self]; rfl
theorem OwnWs.push {s : Value} {ws : List Nat} (h : OwnWs U w base ss wss) (ho : w.ownsRow base U 1 s ws.length (ws.map wordV)) (hw : ∀ z ∈ ws, z < 18446744073709551616) (hl : ws.length ≤ 1000) : OwnWs U w base (ss ++ [s]) (wss ++ [ws]) := by
  refine ⟨by simp [h.1], fun i hi => ?_⟩
  rw [List.length_append, List.length_singleton] at hi
  rcases Nat.lt_or_ge i wss.length with g | g
  · rw [getS_old wss ws [] g, getS_old ss s undef (by rw [h.1]; exact g)]; exact h.2 i g
  · rw [getS_new wss ws [] (by omega), getS_new ss s undef (by rw [h.1]; omega)]; exact ⟨ho, hw, hl⟩
end
/-- The cells of rows of bits. -/
def lvCells (n : Int) : List Value → List Value
  | [] => []
  | s :: ss => .int .i64 n :: s :: lvCells n ss
theorem lvCells_nil (n : Int) : lvCells n [] = [] := rfl
theorem lvCells_len (n : Int) : ∀ ss, (lvCells n ss).length = ss.length * 2
  | [] => rfl
  | s :: ss => by rw [lvCells, List.length_cons, List.length_cons, lvCells_len n ss, List.length_cons]; omega
theorem lvCells_snoc (n : Int) (s : Value) : ∀ ss, lvCells n (ss ++ [s]) = lvCells n ss ++ [.int .i64 n, s]
  | [] => rfl
  | x :: ss => by rw [List.cons_append, lvCells, lvCells_snoc n s ss]; rfl
theorem lvCells_at (n : Int) : ∀ (ss : List Value) (i : Nat), i < ss.length → (lvCells n ss).getD (i * 2) undef = .int .i64 n ∧ (lvCells n ss).getD (i * 2 + 1) undef = ss.getD i undef
  | s :: ss, 0, _ => ⟨rfl, rfl⟩
  | s :: ss, i + 1, h => by
    have := lvCells_at n ss i (by simpa using h)
    rw [show (i + 1) * 2 = i * 2 + 1 + 1 from by omega, lvCells]
    simpa using this
attribute [irreducible] lvCells
/-- What the rows read as. -/
theorem rowsB_own {U E : TypeId} {w : World} {base base' k : Nat} {n : Int} {v : Value} {ss : List Value} {wss : List (List Nat)} (hn : I64 n) (hr : w.ownsRow base' E 2 v k (lvCells n ss)) (hk : wss.length = k) (hl : k ≤ 1000) (h : OwnWs U w base ss wss) : IsRowsB w w.heap.size v (wss.map fun ws => (n, ws)) := by
  subst hk
  have hat : ∀ i, i < (wss.map fun ws => (n, ws)).length → IsBits w w.heap.size (.agg #[(lvCells n ss).getD (i * 2) undef, (lvCells n ss).getD (i * 2 + 1) undef]) ((wss.map fun ws => (n, ws)).getD i (0, [])).1 ((wss.map fun ws => (n, ws)).getD i (0, [])).2 := fun i hi => by
    have hi' : i < wss.length := by simpa using hi
    obtain ⟨e1, e2⟩ := lvCells_at n ss i (by rw [h.1]; exact hi')
    have e3 : (wss.map fun ws => (n, ws)).getD i (0, []) = (n, wss.getD i []) := by
      rw [List.getD_eq_getElem?_getD, List.getElem?_map, List.getElem?_eq_getElem hi', List.getD_eq_getElem?_getD, List.getElem?_eq_getElem hi']; rfl
    rw [e1, e2, e3]
    obtain ⟨k1, k2, k3⟩ := h.2 i hi'
    exact ⟨_, rfl, hn, own_words k1 (show (wss.getD i []).length ≤ 140737488351232 by omega) k2⟩
  rcases hr.2 with ⟨rfl, h0⟩ | ⟨g, cap, cur, rfl, _, _, hnc, hcm, _⟩
  · exact ⟨none, 0, _, by rw [List.length_map, h0], by rw [List.length_map]; omega, by omega, by rw [List.length_map]; omega, ⟨by rw [List.length_map]; exact hr.1, fun hp => absurd hp (by rw [List.length_map]; omega)⟩, hat⟩
  · exact ⟨_, cap, _, by rw [List.length_map], by rw [List.length_map]; exact hnc, hcm, by rw [List.length_map]; omega, by rw [List.length_map]; exact Reads.of_own hr, hat⟩
end Go.Dam
