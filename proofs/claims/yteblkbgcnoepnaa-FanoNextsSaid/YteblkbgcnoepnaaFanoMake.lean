/-
  Contract of fano.Make: numbers that do not fall, split in lower bits and marks, or why there are none. Conditions: the list can be read as data.
-/
import Derived.Test.YteblkbgcnoepnaaFanoWidth
import Derived.Test.YteblkbgcnoepnaaPackMake
import Derived.Test.YteblkbgcnoepnaaBitsMake
import Derived.Test.YteblkbgcnoepnaaBeside
import Derived.Test.YteblkbgcnoepnaaBools
import Derived.Test.YteblkbgcnoepnaaIntRows
import Derived.Test.YteblkbgcnoepnaaPush
import Derived.Test.YteblkbgcnoepnaaOwnBlk
import Derived.Test.YteblkbgcnoepnaaIntBlk
import Derived.WalkSmall
namespace Go.Dam
open Go Go.RowKit
set_option linter.unusedVariables false
/-- The six cells of what is made stand behind six stores. -/
theorem res6 {wr : World} {K : Nat} {T : TypeId} {a0 a1 a2 a3 a4 a5 b0 b1 b2 b3 b4 b5 : Value} (h : Blk wr K T #[b0, b1, b2, b3, b4, b5]) :
    Blk ((((((wr.setCell ⟨K, 0, none⟩ a0).setCell ⟨K, 1, none⟩ a1).setCell ⟨K, 2, none⟩ a2).setCell ⟨K, 3, none⟩ a3).setCell ⟨K, 4, none⟩ a4).setCell ⟨K, 5, none⟩ a5) K T #[a0, a1, a2, a3, a4, a5] :=
  (((((h.set_ 0 a0).set_ 1 a1).set_ 2 a2).set_ 3 a3).set_ 4 a4).set_ 5 a5
theorem below6 {w wr : World} {K : Nat} {a0 a1 a2 a3 a4 a5 : Value} (h : Below w.heap.size w wr) (hK : w.heap.size ≤ K) :
    Below w.heap.size w ((((((wr.setCell ⟨K, 0, none⟩ a0).setCell ⟨K, 1, none⟩ a1).setCell ⟨K, 2, none⟩ a2).setCell ⟨K, 3, none⟩ a3).setCell ⟨K, 4, none⟩ a4).setCell ⟨K, 5, none⟩ a5) :=
  (((((h.setCell (p := ⟨K, 0, none⟩) hK _).setCell (p := ⟨K, 1, none⟩) hK _).setCell (p := ⟨K, 2, none⟩) hK _).setCell (p := ⟨K, 3, none⟩) hK _).setCell (p := ⟨K, 4, none⟩) hK _).setCell (p := ⟨K, 5, none⟩) hK _
/-- What fano.Make gives. -/
def GivesFano (bd n1 m1 : Int) (ws1 : List Nat) (n2 : Int) (ws2 : List Nat) (cc : Int) (w : World) (e : Ending) (w' : World) : Prop :=
  ∃ s1 s2, e = .returned (.tuple #[.agg #[.int .i64 bd, .int .i64 n1, .int .i64 m1, s1, .int .i64 n2, s2], .int .i64 cc]) ∧ IsWords w' w'.heap.size s1 ws1 ∧ IsWords w' w'.heap.size s2 ws2 ∧ Below w.heap.size w w'
theorem and_mask (x Q q : Nat) (hQ : Q = 2 ^ q) (hx : x < 9223372036854775808) (hq : q ≤ 62) : bits .and .i64 (x : Int) ((Q : Int) - 1) = ((x % Q : Nat) : Int) := by
  have hp : 0 < 2 ^ q := Nat.pow_pos (by decide)
  have hp2 : 2 ^ q ≤ 2 ^ 62 := Nat.pow_le_pow_right (by decide) hq
  have e : ((Q : Int) - 1) = ((Q - 1 : Nat) : Int) := by omega
  rw [e, and_i64 (x : Int) x (Q - 1) rfl hx (by omega), hQ, Nat.and_two_pow_sub_one_eq_mod]
end Go.Dam
namespace Go.Proofs.Yteblkbgcnoepnaa
open Go Go.RowKit Go.Dam
set_option linter.unusedVariables false
set_option maxRecDepth 100000 in
set_option maxHeartbeats 1000000 in
theorem fanoMake_bad (bound : Int) (v : Value) (l : List Int) (cc : Int) (w : World) (B : Nat) (hB : B ≤ w.heap.size) (hb64 : I64 bound) (h : IsInts .i64 w B v l)
    (hR : (300 < l.length ∧ cc = 1) ∨ (l.length ≤ 300 ∧ (bound < 0 ∨ (¬ bound < 0 ∧ 1048576 < bound)) ∧ cc = 2) ∨ (l.length ≤ 300 ∧ ¬ bound < 0 ∧ ¬ 1048576 < bound ∧ ¬ OkF bound l ∧ cc = 4)) :
    Calls Try.prog 27 #[.int .i64 bound, v] w (GivesFano 0 0 0 [] 0 [] cc w) := by
  unfold I64 at hb64
  have HI := Lib.hid h
  have HS := Lib.hid fun r W (hW : Below w.heap.size w W) hr => isSorted_any v l r W B (h.below (hW.mono hB)) hr
  obtain ⟨A, c, rfl, hc, hm, hb, hr, hw⟩ := h
  have HA := Lib.hid ((Below.refl w.heap.size w).alloc (Nat.le_refl _) (.cells #[.int .i64 0, .int .i64 0, .int .i64 0, .slice none 0 0, .int .i64 0, .slice none 0 0] 45))
  rcases hR with ⟨hl, rfl⟩ | ⟨hl, hbd, rfl⟩ | ⟨hl, hb1, hb2, hok, rfl⟩
  · clear HI HS hr hw
    go_enter Try.func27, Try.ntmps27
    go_wp2_with fail
    exact bodyPost_ret (v := .tuple #[.agg #[.int .i64 0, .int .i64 0, .int .i64 0, .slice none 0 0, .int .i64 0, .slice none 0 0], .int .i64 1]) (by simp [results, Try.results27, go_sem]) rfl ⟨_, _, rfl, isWords_nil _ _, isWords_nil _ _, HA.out⟩
  · clear HI HS hr hw
    have hbd' : bound < 0 ∨ (¬ bound < 0 ∧ 1048576 < bound) := hbd
    rcases hbd' with h1 | ⟨h1, h2⟩
    all_goals
      go_enter Try.func27, Try.ntmps27
      go_wp2_with fail
      exact bodyPost_ret (v := .tuple #[.agg #[.int .i64 0, .int .i64 0, .int .i64 0, .slice none 0 0, .int .i64 0, .slice none 0 0], .int .i64 2]) (by simp [results, Try.results27, go_sem]) rfl ⟨_, _, rfl, isWords_nil _ _, isWords_nil _ _, HA.out⟩
  · by_cases hs : SortedN l
    · have HSt := Lib.hid fun W hW => HS.out true W hW (.inl ⟨rfl, hs⟩)
      have hl0 : l.length ≠ 0 ∧ (l.getD 0 0 < 0 ∨ (¬ l.getD 0 0 < 0 ∧ bound < l.getD (l.length - 1) 0)) := by
        have := mt okF_iff.2 hok
        refine ⟨fun h => this ⟨hs, .inl h⟩, ?_⟩
        by_cases h1 : l.getD 0 0 < 0
        · exact .inl h1
        · refine .inr ⟨h1, ?_⟩
          apply Classical.byContradiction
          intro h2
          exact this ⟨hs, .inr ⟨by omega, by omega⟩⟩
      obtain ⟨hl0, hend⟩ := hl0
      obtain ⟨b, off, rfl, hbB, hcells⟩ := ints_cells hr (by omega)
      have hlp : 0 < l.length := by omega
      have hlp' : (0 : Int) < (l.length : Int) := by omega
      have hls : (l.length : Int) - 1 = ((l.length - 1 : Nat) : Int) := by omega
      have hlt1 : l.length - 1 < l.length := by omega
      have hbw : b < w.heap.size := by omega
      have k0 := hcells 0 hlp
      have k1 := hcells (l.length - 1) hlt1
      rw [Nat.add_zero] at k0
      clear hcells HS HI hok hs
      generalize l.getD 0 0 = x0 at *
      generalize l.getD (l.length - 1) 0 = x1 at *
      generalize l.length - 1 = e1 at *
      rcases hend with h3 | ⟨h3, h4⟩
      all_goals
        go_enter Try.func27, Try.ntmps27
        go_wp2_with (go_at_call 56; refine (HSt.out _ HA.out).mono ?_; rintro e w1 ⟨rfl, ⟨nd, rfl⟩⟩)
        have hr6 := res6 (a0 := .int .i64 0) (a1 := .int .i64 0) (a2 := .int .i64 0) (a3 := .slice none 0 0) (a4 := .int .i64 0) (a5 := .slice none 0 0) ((Blk.new w 45 #[.int .i64 0, .int .i64 0, .int .i64 0, .slice none 0 0, .int .i64 0, .slice none 0 0]).drewN nd)
        have hbf := below6 (a0 := .int .i64 0) (a1 := .int .i64 0) (a2 := .int .i64 0) (a3 := .slice none 0 0) (a4 := .int .i64 0) (a5 := .slice none 0 0) (below_drewN HA.out nd) (Nat.le_refl w.heap.size)
        have c0 := hr6.cell 0
        have c1 := hr6.cell 1
        have c2 := hr6.cell 2
        have c3 := hr6.cell 3
        have c4 := hr6.cell 4
        have c5 := hr6.cell 5
        clear hr6
        generalize (((((World.setCell ((w.alloc (.cells #[.int .i64 0, .int .i64 0, .int .i64 0, .slice none 0 0, .int .i64 0, .slice none 0 0] 45)).drewN nd) ⟨w.heap.size, 0, none⟩ (.int .i64 0)).setCell ⟨w.heap.size, 1, none⟩ (.int .i64 0)).setCell ⟨w.heap.size, 2, none⟩ (.int .i64 0)).setCell ⟨w.heap.size, 3, none⟩ (.slice none 0 0)).setCell ⟨w.heap.size, 4, none⟩ (.int .i64 0)).setCell ⟨w.heap.size, 5, none⟩ (.slice none 0 0) = wf at *
        exact bodyPost_ret (v := .tuple #[.agg #[.int .i64 0, .int .i64 0, .int .i64 0, .slice none 0 0, .int .i64 0, .slice none 0 0], .int .i64 4]) (by simp [results, Try.results27, go_sem, c0, c1, c2, c3, c4, c5]) rfl ⟨_, _, rfl, isWords_nil _ _, isWords_nil _ _, hbf⟩
    · have HSt := Lib.hid fun W hW => HS.out false W hW (.inr ⟨rfl, hs⟩)
      clear HS HI hok hs hr hw
      go_enter Try.func27, Try.ntmps27
      go_wp2_with (go_at_call 56; refine (HSt.out _ HA.out).mono ?_; rintro e w1 ⟨rfl, ⟨nd, rfl⟩⟩)
      have hr6 := res6 (a0 := .int .i64 0) (a1 := .int .i64 0) (a2 := .int .i64 0) (a3 := .slice none 0 0) (a4 := .int .i64 0) (a5 := .slice none 0 0) ((Blk.new w 45 #[.int .i64 0, .int .i64 0, .int .i64 0, .slice none 0 0, .int .i64 0, .slice none 0 0]).drewN nd)
      have hbf := below6 (a0 := .int .i64 0) (a1 := .int .i64 0) (a2 := .int .i64 0) (a3 := .slice none 0 0) (a4 := .int .i64 0) (a5 := .slice none 0 0) (below_drewN HA.out nd) (Nat.le_refl w.heap.size)
      have c0 := hr6.cell 0
      have c1 := hr6.cell 1
      have c2 := hr6.cell 2
      have c3 := hr6.cell 3
      have c4 := hr6.cell 4
      have c5 := hr6.cell 5
      clear hr6
      generalize (((((World.setCell ((w.alloc (.cells #[.int .i64 0, .int .i64 0, .int .i64 0, .slice none 0 0, .int .i64 0, .slice none 0 0] 45)).drewN nd) ⟨w.heap.size, 0, none⟩ (.int .i64 0)).setCell ⟨w.heap.size, 1, none⟩ (.int .i64 0)).setCell ⟨w.heap.size, 2, none⟩ (.int .i64 0)).setCell ⟨w.heap.size, 3, none⟩ (.slice none 0 0)).setCell ⟨w.heap.size, 4, none⟩ (.int .i64 0)).setCell ⟨w.heap.size, 5, none⟩ (.slice none 0 0) = wf at *
      exact bodyPost_ret (v := .tuple #[.agg #[.int .i64 0, .int .i64 0, .int .i64 0, .slice none 0 0, .int .i64 0, .slice none 0 0], .int .i64 4]) (by simp [results, Try.results27, go_sem, c0, c1, c2, c3, c4, c5]) rfl ⟨_, _, rfl, isWords_nil _ _, isWords_nil _ _, hbf⟩
end Go.Proofs.Yteblkbgcnoepnaa
