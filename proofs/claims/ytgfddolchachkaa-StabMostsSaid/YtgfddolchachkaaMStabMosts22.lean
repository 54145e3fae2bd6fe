/-
  Contracts of stab.Stab and the reference's StabOf: the places of the spans that have a number. Conditions: the spans can be read as data.
-/
import Derived.Test.YtgfddolchachkaaMStabMosts03
import Derived.Test.YtgfddolchachkaaMStabMosts21
namespace Go.Dam
/-- Has span i the number x? -/
def hasNum (l : List Int) (x : Int) (i : Nat) : Bool := decide (l.getD (i * 2) 0 ≤ x ∧ x ≤ l.getD (i * 2 + 1) 0)
theorem hasNum_yes {l : List Int} {x : Int} {i : Nat} (h : hasNum l x i = true) : l.getD (i * 2) 0 ≤ x ∧ x ≤ l.getD (i * 2 + 1) 0 := by simpa [hasNum] using h
theorem hasNum_no {l : List Int} {x : Int} {i : Nat} (h : hasNum l x i = false) : x < l.getD (i * 2) 0 ∨ l.getD (i * 2) 0 ≤ x ∧ l.getD (i * 2 + 1) 0 < x := by
  rw [hasNum, decide_eq_false_iff_not] at h; omega
attribute [irreducible] hasNum
/-- What Stab answers. -/
def StabR (n : Nat) (l : List Int) (x : Int) (r : List Int) (c : Int) : Prop := c = spCode n l ∧ r = if c = 0 then placesOf (hasNum l x) n else []
theorem StabR.ex (n : Nat) (l : List Int) (x : Int) : ∃ r c, StabR n l x r c := ⟨_, _, rfl, rfl⟩
end Go.Dam
namespace Go.Proofs.Ytgfddolchachkaa
open Go Go.RowKit Go.Dam
set_option linter.unusedVariables false
set_option maxHeartbeats 1000000 in
theorem stabOf_any (v : Value) (n : Nat) (l : List Int) (x : Int) (r : List Int) (cc : Int) (w : World) (B : Nat) (hB : B ≤ w.heap.size) (h : IsFlat 2 w B v n l) (hR : StabR n l x r cc) :
    Calls Try.prog 57 #[v, .int .i64 x] w (GivesInts r cc w) := by
  have HC := spansFault_any v n l w B hB h
  obtain ⟨A, c, rfl, hc, hm, hn, hl, hr, hw⟩ := h
  obtain ⟨h1, h2⟩ := hR
  rw [← h1] at HC
  by_cases c0 : cc = 0
  rotate_left
  · rw [if_neg c0] at h2
    subst h2
    have t0 : (cc != 0) = true := by simpa using c0
    have HC := Lib.hid HC
    clear hr hl hw h1 c0
    go_enter Try.func57, Try.ntmps57
    go_wp2_with (go_at_call 26; refine (HC.out).mono ?_; rintro e w1 ⟨rfl, hb1⟩)
    go_ret2
    exact ⟨_, rfl, isInts_nil _ _ _, hb1⟩
  subst c0
  rw [if_pos rfl] at h2
  subst h2
  obtain ⟨hn1, _⟩ := spCode_ok h1.symm
  have HC := Lib.hid HC
  clear h1
  go_enter Try.func57, Try.ntmps57
  go_wp2_with (go_at_call 26; refine (HC.out).mono ?_; rintro e w1 ⟨rfl, hb1⟩)
  have hz1 := hb1.size
  go_loopw [7, 16] (fun ov iv wr => ∃ i : Nat, i ≤ n ∧ iv = .int .i64 i ∧ (∃ m, wr.ownsRow w1.heap.size 3 1 ov m ((placesOf (hasNum l x) i).map (Value.int .i64)) ∧ m ≤ i) ∧ Below w.heap.size w wr ∧ w1.heap.size ≤ wr.heap.size) (fun _ iv _ => n - (intOf iv).toNat)
  case atStart => exact ⟨0, by omega, rfl, ⟨0, by rw [placesOf_0]; exact World.ownsRow_nil _ _ _ _, by omega⟩, hb1, Nat.le_refl _⟩
  case round =>
    obtain ⟨i, hi, rfl, ⟨m, hown, hmi⟩, hbel, hsz⟩ := hrel
    by_cases hlt : i < n
    · obtain ⟨b, off, rfl, hb, hcells⟩ := flat_cells hr hl (by omega) (by omega)
      have c0 := (hbel.cell (p := ⟨b, off + i * 2, none⟩) (by simp; omega)).trans (hcells (i * 2) (by omega))
      have c1 := (hbel.cell (p := ⟨b, off + i * 2 + 1, none⟩) (by simp; omega)).trans (hcells (i * 2 + 1) (by omega))
      have HO := Lib.hid hown
      have HB := Lib.hid hbel
      obtain ⟨A2, cap2, rfl⟩ := own_shape hown
      have hs2 : w.heap.size ≤ wr.heap.size := by omega
      cases hp : hasNum l x i with
      | true =>
        obtain ⟨o1, o2⟩ := hasNum_yes hp
        have HP := Lib.hid (placesOf_yes (p := hasNum l x) hp)
        generalize l.getD (i * 2) 0 = lo at *
        generalize l.getD (i * 2 + 1) 0 = hi at *
        have t1 : decide (x < lo) = false := by simp; omega
        have t2 : decide (hi < x) = false := by simp; omega
        clear hown hbel hcells hp
        go_wp2_with (at_builtin; refine wpList_push el_int rfl (.tmp 36) (.tmp 38) rfl w1.heap.size _ m _ (HO.out.alloc _) rfl wr.heap.size 1 _ rfl (by simp; rfl) rfl (by omega) (by omega) (by simp; omega) ?_; intro v' w2 hown2 hg2)
        go_roundw
        case rel => exact ⟨i + 1, by omega, by go_num, ⟨m + 1, by rw [HP.out, List.map_append]; exact hown2, by omega⟩, below_push (HB.out.alloc hs2 _) (HO.out.alloc _) hz1 (by simp; omega) hg2, by have := hg2.size; simp at this; omega⟩
        case measure => simp [intOf]; omega
      | false =>
        have HP := Lib.hid (placesOf_no (p := hasNum l x) hp)
        have o := hasNum_no hp
        clear hcells hp hown hbel
        generalize l.getD (i * 2) 0 = lo at *
        generalize l.getD (i * 2 + 1) 0 = hi at *
        rcases o with o1 | ⟨o1, o2⟩
        · have t1 : decide (x < lo) = true := by simp; omega
          go_wp2_with fail
          go_roundw
          case rel => exact ⟨i + 1, by omega, by go_num, ⟨m, by rw [HP.out]; exact HO.out, by omega⟩, HB.out, hsz⟩
          case measure => simp [intOf]; omega
        · have t1 : decide (x < lo) = false := by simp; omega
          have t2 : decide (hi < x) = true := by simp; omega
          go_wp2_with fail
          go_roundw
          case rel => exact ⟨i + 1, by omega, by go_num, ⟨m, by rw [HP.out]; exact HO.out, by omega⟩, HB.out, hsz⟩
          case measure => simp [intOf]; omega
    · obtain rfl : i = n := by omega
      have HO := Lib.hid hown
      have HB := Lib.hid hbel
      clear hown hbel
      go_wp2
      go_ret2
      exact ⟨_, rfl, own_ints HO.out (Nat.le_trans (placesOf_len _ _) (by omega)) (placesOf_wf (by omega)), HB.out⟩
end Go.Proofs.Ytgfddolchachkaa
