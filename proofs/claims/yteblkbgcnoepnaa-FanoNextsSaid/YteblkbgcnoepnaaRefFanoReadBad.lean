/-
  Contract of the reference's FanoRead. Conditions: the struct can be read as data.
-/
import Derived.Test.YteblkbgcnoepnaaFanoWords
import Derived.Test.YteblkbgcnoepnaaPackAt
import Derived.Test.YteblkbgcnoepnaaBools
import Derived.Test.YteblkbgcnoepnaaBitsMay
import Derived.Test.YteblkbgcnoepnaaPush
import Derived.Test.YteblkbgcnoepnaaIntRows
import Derived.Test.YteblkbgcnoepnaaOwnBlk
import Derived.Test.YteblkbgcnoepnaaSameInts
namespace Go.Dam
open Go Go.RowKit
theorem bool_cellF {w : World} {B : Nat} {A : Option Addr} {c : Nat} {l : List Bool} (h : IsBools w B (.slice A l.length c) l) (h0 : 0 < l.length) : l.length ≤ c ∧ ∃ b off, A = some ⟨b, off, none⟩ ∧ b < B ∧ ∀ k, k < l.length → w.cell? ⟨b, off + k, none⟩ = some (.bool (l.getD k false)) := by
  obtain ⟨A', c', hv, hc, hm, hn, hr⟩ := h
  obtain ⟨rfl, rfl⟩ : A = A' ∧ c = c' := by injection hv with a b c; exact ⟨a, c⟩
  exact ⟨hc, bools_at hr h0⟩
end Go.Dam
namespace Go.Proofs.Yteblkbgcnoepnaa
open Go Go.RowKit Go.Dam
set_option linter.unusedVariables false
/-- What reading gives: a list, and whether the parts are good. -/
def GivesRead (l : List Int) (ok : Bool) (w : World) (e : Ending) (w' : World) : Prop :=
  ∃ A c, ∃ l' : List Int, e = .returned (.tuple #[.slice A l'.length c, .bool ok]) ∧ IsInts .i64 w' w'.heap.size (.slice A l'.length c) l' ∧ (ok = true → l' = l) ∧ Below w.heap.size w w'
theorem givesRead_no {l : List Int} {ok : Bool} {w w' : World} (hok : ok = false) (hb : Below w.heap.size w w') : GivesRead l ok w (.returned (.tuple #[.slice none 0 0, .bool false])) w' :=
  ⟨none, 0, [], by rw [hok]; rfl, isInts_nil _ _ _, (fun h => by rw [hok] at h; cases h), hb⟩
set_option maxRecDepth 100000 in
set_option maxHeartbeats 1000000 in
theorem refFanoRead_bad (v : Value) (bd n1 m1 : Int) (ws1 : List Nat) (n2 : Int) (ws2 : List Nat) (l : List Int) (w : World) (B : Nat) (hB : B ≤ w.heap.size) (h : IsFano w B v bd n1 m1 ws1 n2 ws2)
    (hok : mayPacked n1 m1 ws1 = false ∨ mayBits n2 ws2 = false) :
    Calls Try.prog 30 #[v] w (GivesRead l false w) := by
  obtain ⟨s1, s2, rfl, hbd, hn1, hm1, hn2, h1, h2⟩ := h
  have HM1 := Lib.hid fun W (hW : Below w.heap.size w W) => refPackMay_any (.agg #[.int .i64 n1, .int .i64 m1, s1]) n1 m1 ws1 W B (Nat.le_trans hB hW.size) ⟨_, rfl, hn1, hm1, h1.below (hW.mono hB)⟩
  have HM2 := Lib.hid fun W (hW : Below w.heap.size w W) => refMay_any (.agg #[.int .i64 n2, s2]) n2 ws2 W B (Nat.le_trans hB hW.size) ⟨_, rfl, hn2, h2.below (hW.mono hB)⟩
  have HBk := Lib.hid (Blk.new w 45 #[.int .i64 bd, .int .i64 n1, .int .i64 m1, s1, .int .i64 n2, s2])
  have HA := Lib.hid ((Below.refl w.heap.size w).alloc (Nat.le_refl _) (.cells #[.int .i64 bd, .int .i64 n1, .int .i64 m1, s1, .int .i64 n2, s2] 45))
  clear h1 h2 hbd hn1 hm1 hn2
  cases e1 : mayPacked n1 m1 ws1 with
  | false =>
    rw [e1] at HM1
    clear hok e1
    go_enter Try.func30, Try.ntmps30
    go_wp2_with (go_at_call 60; refine (HM1.out _ HA.out).mono ?_; rintro e w1 ⟨rfl, hb1⟩; have HB1 := Lib.hid (below_box hb1); clear hb1)
    go_ret2
    exact givesRead_no rfl HB1.out
  | true =>
    have e2 : mayBits n2 ws2 = false := by rcases hok with h | h; · rw [e1] at h; cases h
                                           · exact h
    rw [e1] at HM1
    rw [e2] at HM2
    clear hok e1 e2
    go_enter Try.func30, Try.ntmps30
    go_wp2_with (first
      | (go_at_call 60; refine (HM1.out _ HA.out).mono ?_; rintro e w1 ⟨rfl, hb1⟩; have hz1 := size_box hb1; have k4 := (HBk.out.below hb1 HBk.out.lt).cell 4; have k5 := (HBk.out.below hb1 HBk.out.lt).cell 5; have HB1 := Lib.hid (below_box hb1); clear hb1)
      | (go_at_call 45; refine (HM2.out _ HB1.out).mono ?_; rintro e w2 ⟨rfl, hb2⟩; have HB2 := Lib.hid (HB1.out.trans (hb2.mono HB1.out.size)); clear hb2))
    go_ret2
    exact givesRead_no rfl HB2.out
end Go.Proofs.Yteblkbgcnoepnaa
