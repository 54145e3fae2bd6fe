/-
  Contract of the library's Clone at []int: a row of the call's own. Conditions: the list can be read as data.
-/
import Derived.Test.YtnkflafkalmnmaaMTopUnits03
import Derived.Test.YtnkflafkalmnmaaMTopUnits00
namespace Go.Dam
open Go Go.RowKit
/-- An empty row in a block of its own. -/
theorem own_empty (w : World) (t : TypeId) : (w.alloc (.cells #[] t)).ownsRow w.heap.size t 1 (.slice (some ⟨w.heap.size, 0, none⟩) 0 0) 0 [] :=
  ⟨rfl, .inr ⟨w.heap.size, 0, #[], rfl, Nat.le_refl _, heap_alloc_new w _, Nat.le_refl _, by unfold maxLen; omega, rfl, rfl⟩⟩
end Go.Dam
namespace Go.Proofs.Ytnkflafkalmnmaa
open Go Go.RowKit Go.Dam
set_option linter.unusedVariables false
/-- A row of the call's own is returned; nil only if the list is empty. -/
def GivesOwn (l : List Int) (w : World) (e : Ending) (w' : World) : Prop := ∃ v, e = .returned v ∧ w'.ownsRow w.heap.size 3 1 v l.length (l.map (Value.int .i64)) ∧ Below w.heap.size w w'
set_option maxHeartbeats 400000 in
theorem cloneInts_any (v : Value) (l : List Int) (w : World) (B : Nat) (hB : B ≤ w.heap.size) (h : IsInts .i64 w B v l) (hlen : l.length ≤ 1000000) :
    Calls Try.prog 19 #[v] w (GivesOwn l w) := by
  obtain ⟨A, c, rfl, hc, hm, hn, hr, hw⟩ := h
  cases A with
  | none =>
    have hl : l = [] := by
      rcases Nat.eq_zero_or_pos l.length with h0 | h0
      · exact List.eq_nil_of_length_eq_zero h0
      · obtain ⟨ad, h1, _⟩ := hr.2 h0
        cases h1
    subst hl
    clear hr hw
    have heq := fun w => Lib.run_eql_slice_nil (P := Try.prog) w 28 3 none 0 c 0 0 Try.underlying28
    go_enter Try.func19, Try.ntmps19
    go_wp2_with fail
    go_ret
    exact ⟨_, rfl, World.ownsRow_nil _ _ _ _, Below.refl _ _⟩
  | some ad =>
    have heq := fun w => Lib.run_eql_slice_nil (P := Try.prog) w 28 3 (some ad) l.length c 0 0 Try.underlying28
    have HO : Hid ((w.alloc (.cells #[] 3)).ownsRow w.heap.size 3 1 (.slice (some ⟨w.heap.size, 0, none⟩) 0 0) 0 []) := Lib.hid (own_empty w _)
    have HN : Hid (∀ j u, (l.map (Value.int .i64))[j]? = some u → (w.alloc (.cells #[] 3)).cell? (ad.add j) = some u) := Lib.hid fun j u hu => by
      have hj : j < l.length := by
        have := (List.getElem?_eq_some_iff.1 hu).1
        simpa using this
      obtain ⟨ad', e1, hb, hcell⟩ := hr.2 (by omega)
      injection e1 with e1
      subst e1
      exact (World.cell?_alloc_lt w _ _ (by rw [block_of_add]; omega)).trans (hcell j u hu)
    have H1 : Hid (∀ u ∈ l.map (Value.int .i64), u.oneCell' = true) := Lib.hid fun u hu => by
      obtain ⟨x, _, rfl⟩ := List.mem_map.1 hu
      rfl
    clear hr hw
    go_enter Try.func19, Try.ntmps19
    go_wp2_with (at_builtin; refine wpList_pushM el_int rfl (.tmp 5) (.tmp 6) rfl w.heap.size _ 0 [] HO.out rfl ad l.length c (l.map (Value.int .i64)) rfl (by simp) HN.out H1.out (by omega) (by omega) (by simp) ?_; intro v' w2 hown2 hg2 hl2)
    go_ret
    refine ⟨_, rfl, by simpa using hown2, ?_⟩
    exact (((Below.refl w.heap.size w).alloc (Nat.le_refl _) (.cells #[] 3))).grown hg2 (by simp) fun k hk => by
      simp only [Value.ownBlock, Option.some.injEq] at hk; omega
end Go.Proofs.Ytnkflafkalmnmaa
