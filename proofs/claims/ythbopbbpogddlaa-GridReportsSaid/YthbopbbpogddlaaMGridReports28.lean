/-
  Texts of one claim behind each other. Conditions: none of its own.
-/
import Derived.Test.YthbopbbpogddlaaMGridReports03
import Derived.Test.YthbopbbpogddlaaMGridReports00
import Derived.Test.YthbopbbpogddlaaMGridReports02
/-
  Contract of the library's Clone at []int: a row of the call's own. Conditions: the list can be read as data.
-/
namespace Go.Dam
open Go Go.RowKit
/-- An empty row in a block of its own. -/
theorem own_empty (w : World) (t : TypeId) : (w.alloc (.cells #[] t)).ownsRow w.heap.size t 1 (.slice (some ⟨w.heap.size, 0, none⟩) 0 0) 0 [] :=
  ⟨rfl, .inr ⟨w.heap.size, 0, #[], rfl, Nat.le_refl _, heap_alloc_new w _, Nat.le_refl _, by unfold maxLen; omega, rfl, rfl⟩⟩
end Go.Dam
namespace Go.Proofs.Ythbopbbpogddlaa
open Go Go.RowKit Go.Dam
set_option linter.unusedVariables false
/-- A row of the call's own is returned; nil only if the list is empty. -/
def GivesOwn (l : List Int) (w : World) (e : Ending) (w' : World) : Prop := ∃ v, e = .returned v ∧ w'.ownsRow w.heap.size 3 1 v l.length (l.map (Value.int .i64)) ∧ Below w.heap.size w w'
set_option maxHeartbeats 400000 in
theorem cloneInts_any (v : Value) (l : List Int) (w : World) (B : Nat) (hB : B ≤ w.heap.size) (h : IsInts .i64 w B v l) (hlen : l.length ≤ 1000000) :
    Calls Try.prog 63 #[v] w (GivesOwn l w) := by
  obtain ⟨A, c, rfl, hc, hm, hn, hr, hw⟩ := h
  cases A with
  | none =>
    have hl : l = [] := by
      rcases Nat.eq_zero_or_pos l.length with h0 | h0
      · exact List.eq_nil_of_length_eq_zero h0
      · obtain ⟨ad, h1, _⟩ := hr.2 h0
        cases h1
    subst hl
    clear hr hw
    have heq := fun w => Lib.run_eql_slice_nil (P := Try.prog) w 25 3 none 0 c 0 0 Try.underlying25
    go_enter Try.func63, Try.ntmps63
    go_wp2_with fail
    go_ret
    exact ⟨_, rfl, World.ownsRow_nil _ _ _ _, Below.refl _ _⟩
  | some ad =>
    have heq := fun w => Lib.run_eql_slice_nil (P := Try.prog) w 25 3 (some ad) l.length c 0 0 Try.underlying25
    have HO : Hid ((w.alloc (.cells #[] 3)).ownsRow w.heap.size 3 1 (.slice (some ⟨w.heap.size, 0, none⟩) 0 0) 0 []) := Lib.hid (own_empty w _)
    have HN : Hid (∀ j u, (l.map (Value.int .i64))[j]? = some u → (w.alloc (.cells #[] 3)).cell? (ad.add j) = some u) := Lib.hid fun j u hu => by
      have hj : j < l.length := by
        have := (List.getElem?_eq_some_iff.1 hu).1
        simpa using this
      obtain ⟨ad', e1, hb, hcell⟩ := hr.2 (by omega)
      injection e1 with e1
      subst e1
      exact (World.cell?_alloc_lt w _ _ (by rw [block_of_add]; omega)).trans (hcell j u hu)
    have H1 : Hid (∀ u ∈ l.map (Value.int .i64), u.oneCell' = true) := Lib.hid fun u hu => by
      obtain ⟨x, _, rfl⟩ := List.mem_map.1 hu
      rfl
    clear hr hw
    go_enter Try.func63, Try.ntmps63
    go_wp2_with (at_builtin; refine wpList_pushM el_int rfl (.tmp 5) (.tmp 6) rfl w.heap.size _ 0 [] HO.out rfl ad l.length c (l.map (Value.int .i64)) rfl (by simp) HN.out H1.out (by omega) (by omega) (by simp) ?_; intro v' w2 hown2 hg2 hl2)
    go_ret
    refine ⟨_, rfl, by simpa using hown2, ?_⟩
    exact (((Below.refl w.heap.size w).alloc (Nat.le_refl _) (.cells #[] 3))).grown hg2 (by simp) fun k hk => by
      simp only [Value.ownBlock, Option.some.injEq] at hk; omega
end Go.Proofs.Ythbopbbpogddlaa

/-
  Contract of the law's own helper sameBytes: two slices of bytes that read alike are found alike; and the form of a result that is bytes with a code. Conditions: both read as the same bytes.
-/
namespace Go.Dam
open Go Go.RowKit
/-- Bytes and a code are returned, the bytes' cells below the world's end; no old memory is changed. -/
def GivesBytes (l : List Int) (c : Int) (w : World) (e : Ending) (w' : World) : Prop := ∃ v, e = .returned (.tuple #[v, .int .i64 c]) ∧ IsInts .u8 w' w'.heap.size v l ∧ Below w.heap.size w w'
theorem isBytes_nil (k : IntKind) (w : World) (B : Nat) : IsInts k w B (.slice none 0 0) [] :=
  ⟨none, 0, rfl, by simp, by unfold maxLen; omega, by simp, ⟨by simp, fun h => absurd h (by simp)⟩, fun z hz => by cases hz⟩
theorem IsInts.openB {k : IntKind} {w : World} {B : Nat} {v : Value} {l : List Int} (h : IsInts k w B v l) {n : Nat} (hn : l.length = n) : ∃ A c, v = .slice A n c ∧ n ≤ c ∧ c ≤ maxLen ∧ Reads w B 1 A l.length (l.map (Value.int k)) := by
  subst hn
  obtain ⟨A, c, rfl, h1, h2, _, h3, _⟩ := h
  exact ⟨A, c, rfl, h1, h2, h3⟩
end Go.Dam
namespace Go.Proofs.Ythbopbbpogddlaa
open Go Go.RowKit Go.Dam
set_option linter.unusedVariables false
end Go.Proofs.Ythbopbbpogddlaa
