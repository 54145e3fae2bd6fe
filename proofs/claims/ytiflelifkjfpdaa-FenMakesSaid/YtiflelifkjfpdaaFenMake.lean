/-
  Contracts of fen.Make and the reference's FenMake, and the walk of the law FenMakes: a table of sums. Conditions: the list can be read as data.
-/
import Derived.Test.YtiflelifkjfpdaaFenMay
import Derived.Test.YtiflelifkjfpdaaFenMakeAny
import Derived.Test.YtiflelifkjfpdaaCloneInts
namespace Go.Dam
open Go Go.RowKit
/-- The table of a list. -/
def fenTab (l : List Int) (n : Nat) : List Int := (List.range n).map fun k => preS l (k + 1) - preS l (fenLo k)
/-- The table while it is made: those below i have told theirs. -/
def fenHalf (l : List Int) (i : Nat) : List Int := (List.range l.length).map fun k => l.getD k 0 + (preS l (fenTold i k) - preS l (fenLo k))
theorem fenTab_length (l : List Int) (n : Nat) : (fenTab l n).length = n := by simp [fenTab]
theorem fenTab_succ (l : List Int) (n : Nat) : fenTab l (n + 1) = fenTab l n ++ [preS l (n + 1) - preS l (fenLo n)] := by simp [fenTab, List.range_succ]
theorem fenTab_0 (l : List Int) : fenTab l 0 = [] := rfl
theorem fenTab_at (l : List Int) {n k : Nat} (h : k < n) : (fenTab l n).getD k 0 = preS l (k + 1) - preS l (fenLo k) := by simp [fenTab, h]
theorem fenHalf_length (l : List Int) (i : Nat) : (fenHalf l i).length = l.length := by simp [fenHalf]
theorem fenHalf_at {l : List Int} {i k : Nat} (h : k < l.length) : (fenHalf l i).getD k 0 = l.getD k 0 + (preS l (fenTold i k) - preS l (fenLo k)) := by simp [fenHalf, h]
theorem list_ext_getD {a b : List Int} (h : a.length = b.length) (h2 : ∀ k, k < a.length → a.getD k 0 = b.getD k 0) : a = b := by
  apply List.ext_getElem h
  intro k h3 h4
  have := h2 k h3
  rw [List.getD_eq_getElem?_getD, List.getD_eq_getElem?_getD, List.getElem?_eq_getElem h3, List.getElem?_eq_getElem h4] at this
  simpa using this
theorem fenHalf_0 (l : List Int) : fenHalf l 0 = l := by
  refine list_ext_getD (fenHalf_length l 0) fun k hk => ?_
  rw [fenHalf_length] at hk
  rw [fenHalf_at hk, fenTold_0]; omega
theorem fenHalf_end {l : List Int} (hl : l.length ≤ 300) : fenHalf l l.length = fenTab l l.length := by
  refine list_ext_getD (by rw [fenHalf_length, fenTab_length]) fun k hk => ?_
  rw [fenHalf_length] at hk
  rw [fenHalf_at hk, fenTab_at l hk, told_end hk (by omega), preS_succ]; omega
theorem fenHalf_own {l : List Int} {i : Nat} (hi : i < l.length) (hl : l.length ≤ 300) : (fenHalf l i).getD i 0 = preS l (i + 1) - preS l (fenLo i) := by
  rw [fenHalf_at hi, (told_facts (by omega)).1, preS_succ]; omega
theorem fenHalf_keep {l : List Int} {i : Nat} (hi : i < l.length) (hu : l.length ≤ fenUp i) : fenHalf l (i + 1) = fenHalf l i := by
  refine list_ext_getD (by rw [fenHalf_length, fenHalf_length]) fun k hk => ?_
  rw [fenHalf_length] at hk
  rw [fenHalf_at hk, fenHalf_at hk, fenTold_no (by omega)]
theorem fenHalf_set {l : List Int} {i : Nat} (hi : i < l.length) (hu : fenUp i < l.length) (hl : l.length ≤ 300) : (fenHalf l i).set (fenUp i) ((fenHalf l i).getD (fenUp i) 0 + (fenHalf l i).getD i 0) = fenHalf l (i + 1) := by
  refine list_ext_getD (by rw [List.length_set, fenHalf_length, fenHalf_length]) fun k hk => ?_
  rw [List.length_set, fenHalf_length] at hk
  by_cases h : fenUp i = k
  · subst h
    rw [show ∀ (a : List Int) (j : Nat) (x : Int), j < a.length → (a.set j x).getD j 0 = x from fun a j x h => by simp [h]]
    · rw [fenHalf_at hu, fenHalf_own hi hl, fenHalf_at hu, fenTold_yes rfl, (told_facts (show i < 300 by omega)).2]; omega
    · rw [fenHalf_length]; exact hu
  · rw [show ∀ (a : List Int) (j : Nat) (x : Int), j ≠ k → (a.set j x).getD k 0 = a.getD k 0 from fun a j x h => by simp [h]]
    · rw [fenHalf_at hk, fenHalf_at hk, fenTold_no h]
    · exact h
/-- What Make answers. -/
def FenMakeR (l : List Int) (r : List Int) (c : Int) : Prop :=
  (300 < l.length ∧ r = [] ∧ c = 1) ∨ (l.length ≤ 300 ∧ anyN (fun i => !coordOk (l.getD i 0)) l.length = true ∧ r = [] ∧ c = 2) ∨
  (l.length ≤ 300 ∧ anyN (fun i => !coordOk (l.getD i 0)) l.length = false ∧ r = fenTab l l.length ∧ c = 0)
theorem FenMakeR.ex (l : List Int) : ∃ r c, FenMakeR l r c := by
  by_cases h : 300 < l.length
  · exact ⟨_, _, .inl ⟨h, rfl, rfl⟩⟩
  · cases h2 : anyN (fun i => !coordOk (l.getD i 0)) l.length with
    | true => exact ⟨_, _, .inr (.inl ⟨by omega, h2, rfl, rfl⟩)⟩
    | false => exact ⟨_, _, .inr (.inr ⟨by omega, h2, rfl, rfl⟩)⟩
theorem near_all {l : List Int} (h : anyN (fun i => !coordOk (l.getD i 0)) l.length = false) (i : Nat) : -1048576 ≤ l.getD i 0 ∧ l.getD i 0 ≤ 1048576 := by
  rcases Nat.lt_or_ge i l.length with h1 | h1
  · have := anyN_false h i h1
    simp only [Bool.not_eq_false'] at this
    exact coordOk_yes this
  · simp [h1]
theorem preS_300 {l : List Int} (h : ∀ i, -1048576 ≤ l.getD i 0 ∧ l.getD i 0 ≤ 1048576) {j : Nat} (hj : j ≤ 301) : -400000000 ≤ preS l j ∧ preS l j ≤ 400000000 := by
  have := preS_bd (M := 1048576) (by omega) h j
  omega
theorem fenTab_wf {l : List Int} (h : ∀ i, -1048576 ≤ l.getD i 0 ∧ l.getD i 0 ≤ 1048576) {n : Nat} (hn : n ≤ 300) : ∀ z ∈ fenTab l n, (Lit.int .i64 z).wf = true := by
  intro z hz
  obtain ⟨j, hj, rfl⟩ := List.mem_iff_getElem.1 hz
  rw [fenTab_length] at hj
  have e := fenTab_at l hj
  rw [List.getD_eq_getElem?_getD, List.getElem?_eq_getElem (by rw [fenTab_length]; exact hj)] at e
  simp only [Option.getD_some] at e
  have b1 := preS_300 h (j := j + 1) (by omega)
  have b2 := preS_300 h (j := fenLo j) (by have := fenLo_le j; omega)
  refine int_wf ?_
  rw [e]; unfold I64; omega
theorem fenHalf_bd {l : List Int} (h : ∀ i, -1048576 ≤ l.getD i 0 ∧ l.getD i 0 ≤ 1048576) (hl : l.length ≤ 300) (i k : Nat) (hk : k < l.length) (hi : fenTold i k ≤ 301) : -900000000 ≤ (fenHalf l i).getD k 0 ∧ (fenHalf l i).getD k 0 ≤ 900000000 := by
  rw [fenHalf_at hk]
  have b0 := h k
  have b1 := preS_300 h hi
  have b2 := preS_300 h (j := fenLo k) (by have := fenLo_le k; omega)
  omega
theorem told_le (i k : Nat) : fenTold i k ≤ fenLo k ∨ fenTold i k ≤ i := by
  induction i with
  | zero => left; rw [fenTold_0]; exact Nat.le_refl _
  | succ i ih =>
    by_cases h : fenUp i = k
    · right; rw [fenTold_yes h]; exact Nat.le_refl _
    · rw [fenTold_no h]; omega
attribute [irreducible] fenTab fenHalf
end Go.Dam
namespace Go.Proofs.Ytiflelifkjfpdaa
open Go Go.RowKit Go.Dam
set_option linter.unusedVariables false
set_option maxHeartbeats 1000000 in
theorem fenMake_any (v : Value) (l r : List Int) (cc : Int) (w : World) (B : Nat) (hB : B ≤ w.heap.size) (h : IsInts .i64 w B v l) (hR : FenMakeR l r cc) :
    Calls Try.prog 22 #[v] w (GivesInts r cc w) := by
  have HA := fun b (hb : anyN (fun i => !coordOk (l.getD i 0)) l.length = b) => fenMakeContains_any (fun x => !coordOk x) (fun x W _ => fenFar_any x W) v l b w B h hb
  rcases hR with ⟨h1, rfl, rfl⟩ | ⟨h1, h2, rfl, rfl⟩ | ⟨h1, h2, rfl, rfl⟩
  · obtain ⟨A, c, rfl, hc, hm, hn, hr, hw⟩ := h
    clear HA hr hw
    go_enter Try.func22, Try.ntmps22
    go_wp2_with fail
    go_ret2
    exact ⟨_, rfl, isInts_nil _ _ _, Below.refl _ _⟩
  · have HA := Lib.hid (HA _ h2)
    obtain ⟨A, c, rfl, hc, hm, hn, hr, hw⟩ := h
    clear h2 hr hw
    go_enter Try.func22, Try.ntmps22
    go_wp2_with (go_at_call 47; refine (HA.out).mono ?_; rintro e w1 ⟨rfl, rfl⟩)
    go_ret2
    exact ⟨_, rfl, isInts_nil _ _ _, Below.refl _ _⟩
  · have HA := Lib.hid (HA _ h2)
    have HC := Lib.hid (cloneInts_any v l w B hB h (by omega))
    have HNear := Lib.hid (near_all h2)
    obtain ⟨A, c, rfl, hc, hm, hn, hr, hw⟩ := h
    clear h2 hr hw
    go_enter Try.func22, Try.ntmps22
    go_wp2_with (first
      | (go_at_call 47; refine (HA.out).mono ?_; rintro e w1 ⟨rfl, rfl⟩)
      | (go_at_call 50; refine (HC.out).mono ?_; rintro e w1 ⟨u, rfl, hown, hb1⟩; obtain ⟨A2, c2, rfl⟩ := own_shape hown))
    have hz1 := hb1.size
    go_loopw [16] (fun iv wr => ∃ i : Nat, i ≤ l.length ∧ iv = .int .i64 i ∧ wr.ownsRow w.heap.size 3 1 (.slice A2 l.length c2) l.length ((fenHalf l i).map (Value.int .i64)) ∧ Below w.heap.size w wr) (fun iv _ => l.length - (intOf iv).toNat)
    case atStart => exact ⟨0, by omega, rfl, by rw [fenHalf_0]; exact hown, hb1⟩
    case round =>
      clear hown hb1
      obtain ⟨i, hi, rfl, hown, hbel⟩ := hrel
      have HO := Lib.hid hown
      have HB := Lib.hid hbel
      by_cases hlt : i < l.length
      · obtain ⟨g, cap, hf, hgB, hgl⟩ := hown.form (by omega)
        obtain ⟨rfl, rfl⟩ : A2 = some ⟨g, 0, none⟩ ∧ c2 = cap := by injection hf with a b c; exact ⟨a, c⟩
        have hup := fenUp_int i (by omega)
        have hgt := fenUp_gt i
        by_cases hu : fenUp i < l.length
        · have k0 : wr.cell? ⟨g, i, none⟩ = some (.int .i64 ((fenHalf l i).getD i 0)) := by
            rw [hown.cellAt i (by omega)]; simp [fenHalf_length, hlt]
          have k1 : wr.cell? ⟨g, fenUp i, none⟩ = some (.int .i64 ((fenHalf l i).getD (fenUp i) 0)) := by
            rw [hown.cellAt (fenUp i) (by omega)]; simp [fenHalf_length, hu]
          have f1 := hown.frozenAt (fenUp i)
          have HS := (hown.stored (fenUp i) (.int .i64 ((fenHalf l i).getD (fenUp i) 0 + (fenHalf l i).getD i 0))).1
          rw [← List.map_set, fenHalf_set hlt hu h1] at HS
          have HS := Lib.hid HS
          have bi := fenHalf_bd HNear.out h1 i i hlt (by have := told_le i i; have := fenLo_le i; omega)
          have bu := fenHalf_bd HNear.out h1 i (fenUp i) hu (by have := told_le i (fenUp i); have := fenLo_le (fenUp i); omega)
          generalize (fenHalf l i).getD i 0 = x at *
          generalize (fenHalf l i).getD (fenUp i) 0 = y at *
          generalize fenUp i = q at *
          have i1 : IntKind.i64.wrap (y + x) = y + x := by rw [IntKind.wrap_i64]; omega
          clear hown hbel hf bi bu
          go_wp2_with fail
          go_region
          go_wp2
          go_roundw
          case rel => exact ⟨i + 1, by omega, by go_num, HS.out.drew, (HB.out.setCell (p := ⟨g, q, none⟩) hgB _).drew⟩
          case measure => simp [intOf]; omega
        · have HE := Lib.hid (fenHalf_keep hlt (by omega : l.length ≤ fenUp i))
          generalize fenUp i = q at *
          clear hown hbel hf
          go_wp2_with fail
          go_roundw
          case rel => exact ⟨i + 1, by omega, by go_num, by rw [HE.out]; exact HO.out, HB.out⟩
          case measure => simp [intOf]; omega
      · obtain rfl : i = l.length := by omega
        clear hown hbel
        go_wp2_with fail
        go_ret2
        have hown := HO.out
        rw [fenHalf_end h1] at hown
        exact ⟨_, rfl, own_ints hown (by rw [fenTab_length]; omega) (fenTab_wf HNear.out h1), HB.out⟩
set_option maxHeartbeats 1000000 in
theorem refFenMake_any (v : Value) (l r : List Int) (cc : Int) (w : World) (B : Nat) (hB : B ≤ w.heap.size) (h : IsInts .i64 w B v l) (hR : FenMakeR l r cc) :
    Calls Try.prog 23 #[v] w (GivesInts r cc w) := by
  obtain ⟨A, c, rfl, hc, hm, hn, hr, hw⟩ := h
  clear hw
  by_cases h1 : 300 < l.length
  · obtain ⟨rfl, rfl⟩ : r = [] ∧ cc = 1 := by rcases hR with ⟨_, a, b⟩ | ⟨a, _⟩ | ⟨a, _⟩ <;> first | exact ⟨a, b⟩ | omega
    clear hR hr
    go_enter Try.func23, Try.ntmps23
    go_wp2_with fail
    go_ret2
    exact ⟨_, rfl, isInts_nil _ _ _, Below.refl _ _⟩
  have HR := Lib.hid hR
  have h1 : l.length ≤ 300 := by omega
  clear hR
  go_enter Try.func23, Try.ntmps23
  go_wp2_with fail
  go_loop [15] (fun iv => ∃ i : Nat, i ≤ l.length ∧ iv = .int .i64 i ∧ (∀ j, j < i → coordOk (l.getD j 0) = true)) (fun iv => l.length - (intOf iv).toNat)
  case atStart => exact ⟨0, by omega, rfl, fun j hj => absurd hj (by omega)⟩
  case round =>
    obtain ⟨i, hi, rfl, hyes⟩ := hrel
    by_cases hlt : i < l.length
    · obtain ⟨bk, off, rfl, hbk, hcells⟩ := ints_cells hr (by omega)
      have c0 := hcells i hlt
      cases hp : coordOk (l.getD i 0) with
      | true =>
        have HY : Hid (∀ j, j < i + 1 → coordOk (l.getD j 0) = true) := Lib.hid fun j hj => by
          rcases Nat.lt_or_ge j i with h1 | h1
          · exact hyes j h1
          · rw [show j = i from by omega]; exact hp
        obtain ⟨g1, g2⟩ := coordOk_yes hp
        generalize l.getD i 0 = x at *
        clear hcells hyes hp
        have t1 : decide (x < -1048576) = false := by simp; omega
        go_wp2_with fail
        go_round
        case rel => exact ⟨i + 1, by omega, by go_num, HY.out⟩
        case measure => simp [intOf]; omega
      | false =>
        obtain ⟨rfl, rfl⟩ : r = [] ∧ cc = 2 := by
          rcases HR.out with ⟨a, _⟩ | ⟨_, _, a, b⟩ | ⟨_, a, _⟩
          · omega
          · exact ⟨a, b⟩
          · have := anyN_false a i hlt
            rw [hp] at this; cases this
        have g := coordOk_no hp
        generalize l.getD i 0 = x at *
        clear hcells hyes hp HR
        by_cases g1 : x < -1048576
        · have t1 : decide (x < -1048576) = true := by simp; omega
          clear g
          go_wp2_with fail
          go_ret2
          exact ⟨_, rfl, isInts_nil _ _ _, Below.refl _ _⟩
        · have t1 : decide (x < -1048576) = false := by simp; omega
          have g2 : 1048576 < x := by omega
          clear g
          go_wp2_with fail
          go_ret2
          exact ⟨_, rfl, isInts_nil _ _ _, Below.refl _ _⟩
    · obtain rfl : i = l.length := by omega
      have hno : anyN (fun i => !coordOk (l.getD i 0)) l.length = false := anyN_no fun j hj => by rw [hyes j hj]; rfl
      obtain ⟨rfl, rfl⟩ : r = fenTab l l.length ∧ cc = 0 := by
        rcases HR.out with ⟨a, _⟩ | ⟨_, a, _⟩ | ⟨_, _, a, b⟩
        · omega
        · rw [hno] at a; cases a
        · exact ⟨a, b⟩
      have HNear := Lib.hid (near_all hno)
      have HBD : Hid (∀ j, j ≤ 301 → -400000000 ≤ preS l j ∧ preS l j ≤ 400000000) := Lib.hid fun j hj => preS_300 (near_all hno) hj
      clear hyes hno HR
      go_wp2_with fail
      go_loopw [6, 28] (fun ov iv wr => ∃ i : Nat, i ≤ l.length ∧ iv = .int .i64 i ∧ wr.ownsRow w.heap.size 3 1 ov i ((fenTab l i).map (Value.int .i64)) ∧ Below w.heap.size w wr) (fun _ iv _ => l.length - (intOf iv).toNat)
      case atStart => exact ⟨0, by omega, rfl, by rw [fenTab_0]; exact World.ownsRow_nil _ _ _ _, Below.refl _ _⟩
      case round =>
        obtain ⟨i, hi, rfl, hown, hbel⟩ := hrel
        obtain ⟨wo, rfl⟩ : ∃ wo : World, wo = wr := ⟨_, rfl⟩
        have hz := hbel.size
        have HO := Lib.hid hown
        have HB := Lib.hid hbel
        by_cases hlt : i < l.length
        · obtain ⟨bk, off, rfl, hbk, hcells⟩ := ints_cells hr (by omega)
          have HCell : Hid (∀ j, j < l.length → wo.cell? ⟨bk, off + j, none⟩ = some (.int .i64 (l.getD j 0))) := Lib.hid fun j hj => (hbel.cell (p := ⟨bk, off + j, none⟩) (by simp; omega)).trans (hcells j hj)
          obtain ⟨A2, cap2, rfl⟩ := own_shape hown
          have hlo := fenLo_le i
          clear hcells hown hbel
          go_wp2_with (go_at_call 51; refine (fenFrom_any i _ (by omega)).mono ?_; rintro e w1 ⟨rfl, rfl⟩)
          go_loop [8, 9] (fun nv kv => ∃ k : Nat, ∃ x : Int, fenLo i ≤ k ∧ k ≤ i + 1 ∧ kv = .int .i64 k ∧ nv = .int .i64 x ∧ x = preS l k - preS l (fenLo i)) (fun _ kv => i + 1 - (intOf kv).toNat)
          case atStart => exact ⟨fenLo i, 0, by omega, by omega, rfl, rfl, by omega⟩
          case round =>
            obtain ⟨k, x, hk1, hk2, rfl, rfl, hx⟩ := hrel
            have b1 := HBD.out k (by omega)
            have b3 := HBD.out (fenLo i) (by omega)
            by_cases hki : k < i + 1
            · have k5 := HCell.out k (by omega)
              have hS := preS_succ l k
              obtain ⟨y0, y1⟩ := HNear.out k
              generalize l.getD k 0 = y at *
              have HX : Hid (x + y = preS l (k + 1) - preS l (fenLo i)) := Lib.hid (by omega)
              have hxb : -2000000000 ≤ x ∧ x ≤ 2000000000 := by omega
              clear hx b1 b3 hS
              go_wp2_with fail
              go_round
              case rel => exact ⟨k + 1, _, by omega, by omega, by go_num, rfl, HX.out⟩
              case measure => simp [intOf]; omega
            · obtain rfl : k = i + 1 := by omega
              have HX := Lib.hid hx
              clear hx b1 b3
              go_wp2_with (at_builtin; refine wpList_pushD el_int' rfl (.tmp 44) (.tmp 46) rfl w.heap.size _ i _ (HO.out.alloc _) rfl wo.heap.size 1 _ rfl (by simp; rfl) rfl (by omega) (by omega) (by simp; omega) ?_; intro v' w2 hown2 hg2 hl2)
              go_roundw
              case rel => exact ⟨i + 1, by omega, by go_num, by rw [fenTab_succ, List.map_append, ← HX.out]; exact hown2, below_push (HB.out.alloc hz _) (HO.out.alloc _) (Nat.le_refl _) (by simp; omega) hg2⟩
              case measure => simp [intOf]; omega
        · obtain rfl : i = l.length := by omega
          clear hown hbel
          go_wp2
          go_ret2
          exact ⟨_, rfl, own_ints HO.out (by rw [fenTab_length]; omega) (fenTab_wf HNear.out h1), HB.out⟩
set_option maxHeartbeats 400000 in
theorem fenMakes_walk (v : Value) (w : World) (h : ∃ l, IsInts .i64 w w.heap.size v l) :
    Calls Try.prog 6 #[v] w fun e w' => e = .returned (.bool true) ∧ Below w.heap.size w w' := by
  obtain ⟨l, h⟩ := h
  obtain ⟨r, cc, hR⟩ := FenMakeR.ex l
  have H1 := Lib.hid (fenMake_any v l r cc w _ (Nat.le_refl _) h hR)
  have H2 := Lib.hid fun W (hb : Below w.heap.size w W) => refFenMake_any v l r cc W _ hb.size (h.below hb) hR
  obtain ⟨A, c, rfl, hc, hm, hn, hr, hw⟩ := h
  clear hr hw hR
  go_enter Try.func6, Try.ntmps6
  go_wp2_with (first
    | (go_at_call 22; refine (H1.out).mono ?_; rintro e w1 ⟨v1, rfl, hi1, hb1⟩)
    | (go_at_call 23; refine (H2.out _ hb1).mono ?_; rintro e w2 ⟨v2, rfl, hi2, hb2⟩)
    | (go_at_call 17; refine (sameInts_any v1 v2 r _ _ ((hi1.below hb2).more hb2.size) hi2).mono ?_; rintro e w3 ⟨rfl, hd⟩))
  go_ret
  exact ⟨ret_bool (by simp), (hb1.trans (hb2.mono hb1.size)).trans (hd.below _)⟩
end Go.Proofs.Ytiflelifkjfpdaa
